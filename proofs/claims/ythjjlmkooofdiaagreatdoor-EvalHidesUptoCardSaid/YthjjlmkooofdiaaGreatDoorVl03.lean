/-
  a part of the proof: the texts VlF, VlG, joined: helper laws; none of them is the statement.
-/
import Derived.Test.YthjjlmkooofdiaaGreatDoorVl02
import Derived.Laws.BytesString

/-
  VlF: from the machine's operations to the layer's, those that only compute; all of them at once.
-/
namespace Go.VL
open Go

def strOrInt (P : Program) (t : TypeId) : Bool :=
  match P.underlying t with
  | some .string => true
  | some (.int _) => true
  | _ => false

def isNilConst : Bool → Operand → Bool
  | true, .const (.pointer none) => true
  | false, .const .nilIface => true
  | _, _ => false

def cParts (place : Nat → Option (Nat × Nat)) : List (Nat × Operand) → Option (List (Nat × Nat × X))
  | [] => some []
  | (i, o) :: r => (place i).bind fun p => (cX o).bind fun x => (cParts place r).map fun xs => (p.1, p.2, x) :: xs

def isLocal (lps : List Nat) : Operand → Bool
  | .tmp t => lps.contains t
  | _ => false

def cOpt : Option Operand → Option (Option X)
  | none => some none
  | some o => (cX o).map some

def compE (P : Program) (lps : List Nat) (o : Oper) : Option E :=
  match o.op with
  | .move x => (cX x).map .mv
  | .assign x => (cX x).map .mv
  | .pick c a b => (cX c).bind fun c => (cX a).bind fun a => (cX b).map fun b => .pick c a b
  | .binOp op t x y _ => (cX x).bind fun x' => (cX y).bind fun y' =>
    if strOrInt P t then some (.bin op x' y')
    else match P.underlying t, op with
      | some .bool, .eql => some (.eqb false x' y')
      | some .bool, .neq => some (.eqb true x' y')
      | some (.interface _), .eql => if isNilConst false y then some (.eqn false false x') else none
      | some (.interface _), .neq => if isNilConst false y then some (.eqn true false x') else none
      | some (.pointer _), .eql => if isNilConst true y then some (.eqn false true x') else none
      | some (.pointer _), .neq => if isNilConst true y then some (.eqn true true x') else none
      | _, _ => none
  | .unOp .not _ x => (cX x).map .not
  | .unOp .neg _ x => (cX x).map .neg
  | .convert src dst x => (cX x).bind fun x' => match P.underlying src, P.underlying dst with
    | some (.int _), some (.int k) => some (.cvi k x')
    | some .string, some .string => some (.cvs x')
    | some (.slice e), some .string => match P.underlying e with | some (.int .u8) => some (.b2s x') | _ => none
    | _, _ => none
  | .fieldAddr t x f => (cX x).bind fun x' => match P.underlying t with
    | some (.struct fs) => (fs[f]?).bind fun fd => (sizeOfT P fd.type).bind fun n => if n = 0 then none else some (.fa x' fd.offset)
    | _ => none
  | .field t x f => (cX x).bind fun x' => match P.underlying t with
    | some (.struct fs) => (fs[f]?).bind fun fd => (sizeOfT P fd.type).bind fun n => (aggOf P fd.type).map fun g => .fld x' fd.offset n g
    | _ => none
  | .indexAddr t x i => (cX x).bind fun x' => (cX i).bind fun i' => match P.underlying t with
    | some (.slice e) => (sizeOfT P e).map fun n => .ia x' i' n
    | some (.array len e) => (sizeOfT P e).map fun n => .iaa x' i' len n
    | _ => none
  | .index t x i => (cX x).bind fun x' => (cX i).bind fun i' => match P.underlying t with
    | some .string => some (.ix x' i')
    | some (.array len e) => (sizeOfT P e).bind fun n => (aggOf P e).map fun g => .ixa x' i' len n g
    | _ => none
  | .load t x => (cX x).bind fun x' => (sizeOfT P t).bind fun n => (aggOf P t).map fun g => .ld (isLocal lps x) x' n g
  | .extract x i => (cX x).map fun x' => .ext x' i
  | .makeFunc (.func f) fi ca => (cXs fi.toList).bind fun fi' => (cXs ca.toList).map fun ca' => .mkfn f fi' ca'
  | .makeInterface t x => (cX x).bind fun x' => match P.underlying t with
    | some (.interface _) => none
    | some _ => some (.mkif t x')
    | none => none
  | .slice t x lo hi mx => (cX x).bind fun x' => (cOpt lo).bind fun lo' => (cOpt hi).bind fun hi' => (cOpt mx).bind fun mx' => match P.underlying t with
    | some .string => some (.slc true x' lo' hi' mx' 0)
    | some (.slice e) => (sizeOfT P e).map fun n => .slc false x' lo' hi' mx' n
    | _ => none
  | .nilCheck x => (cX x).map .nilck
  | .build t parts => (P.info? t).bind fun it => it.zero.bind fun z => (cLeafs z.cells.toList).bind fun zl => match P.underlying t with
    | some (.struct fs) => (fs.toList.mapM fun f => (P.info? f.type).map fun i => (f.offset, i.size)).bind fun places =>
      (cParts (places.toArray[·]?) parts.toList).map fun ps => .build zl ps
    | some (.array _ e) => (P.info? e).bind fun ie => (cParts (fun i => some (i * ie.size, ie.size)) parts.toList).map fun ps => .build zl ps
    | _ => none
  | .call { callee := .builtin .len, args := as, argTypes := ts } => match as.toList, ts.toList with
    | [x], [t] => (cX x).bind fun x' => match P.underlying t with
      | some .string => some (.len true x')
      | some (.slice _) => some (.len false x')
      | _ => none
    | _, _ => none
  | .call { callee := .builtin .cap, args := as, argTypes := ts } => match as.toList, ts.toList with
    | [x], [t] => (cX x).bind fun x' => match P.underlying t with
      | some (.slice _) => some (.cap x')
      | _ => none
    | _, _ => none
  | _ => none

theorem run_equal_bool {P : Program} {t : TypeId} {w : World} (hu : P.underlying t = some .bool) (p q : Bool) : (Op.equal t (.bool p) (.bool q)).run P w = .ok (p == q) w := by
  have h : ∀ d, (Op.equalIn (d + 1) t (.bool p) (.bool q)).run P w = .ok (p == q) w := fun d => by simp [Op.equalIn, run_und hu]
  exact h 9999

theorem toBytes_len : ∀ {xs : List (List V)} {l : List UInt8}, toBytes xs = some l → ∀ x ∈ xs, x.length = 1
  | [], _, _, x, hx => by simp at hx
  | [.int .u8 n] :: r, l, h, x, hx => by
    simp only [toBytes, Option.map_eq_some_iff] at h
    obtain ⟨l', hl, rfl⟩ := h
    rcases List.mem_cons.1 hx with rfl | hx
    · rfl
    · exact toBytes_len hl x hx

theorem foldl_push : ∀ (ns : List Int) (s : ByteArray), ns.foldl (fun r n => r.push (UInt8.ofNat n.toNat)) s = ⟨s.data ++ (ns.map fun n => UInt8.ofNat n.toNat).toArray⟩
  | [], s => by simp
  | n :: ns, s => by
    simp only [List.foldl_cons]
    rw [foldl_push ns]
    simp [ByteArray.push]

theorem toBytes_rel {I : Nat → Nat → Prop} {w : World} : ∀ {xs : List (List V)} {l : List UInt8}, toBytes xs = some l → ∀ {vs : List Value}, RVs I w xs.flatten vs → ∃ ns : List Int, vs = ns.map (Value.int .u8) ∧ l = ns.map fun n => UInt8.ofNat n.toNat
  | [], l, h, vs, hv => by
    simp [toBytes] at h; subst h
    cases vs with
    | nil => exact ⟨[], rfl, rfl⟩
    | cons v vs => simp [RVs] at hv
  | [.int .u8 n] :: r, l, h, vs, hv => by
    simp only [toBytes, Option.map_eq_some_iff] at h
    obtain ⟨l', hl, rfl⟩ := h
    cases vs with
    | nil => simp [RVs] at hv
    | cons v vs =>
      simp only [List.flatten_cons, List.cons_append, List.nil_append, RVs, RV] at hv
      obtain ⟨rfl, hv⟩ := hv
      obtain ⟨ns, rfl, rfl⟩ := toBytes_rel hl hv
      exact ⟨n :: ns, rfl, rfl⟩

section
variable {P : Program} {N : Fr} {I : Nat → Nat → Prop} {s : H} {T : Nat → V} {L : Nat → Nat × List V} {lb : Nat → Nat × Nat} {a : Act} {w : World}

theorem cParts_rel {place : Nat → Option (Nat × Nat)} (ht : ∀ i, RF I w lb (T i) (a.tmps.getD i undef)) : ∀ {ps : List (Nat × Operand)} {qs : List (Nat × Nat × X)}, cParts place ps = some qs →
    Both (fun (p : Nat × Value) (q : Nat × Nat × V) => place p.1 = some (q.1, q.2.1) ∧ RF I w lb q.2.2 p.2) (ps.map fun p => (p.1, a.eval p.2)) (qs.map fun p => (p.1, p.2.1, p.2.2.ev T))
  | [], qs, h => by simp [cParts] at h; subst h; exact .nil
  | (i, o) :: r, qs, h => by
    simp only [cParts, Option.bind_eq_some_iff, Option.map_eq_some_iff] at h
    obtain ⟨p, hp, x, hx, xs, hxs, rfl⟩ := h
    exact .cons ⟨hp, cX_sound hx ht⟩ (cParts_rel ht hxs)

/-- what an operation that computes comes to, in the machine. -/
def Comp (P : Program) (w : World) (a : Act) (o : Oper) (I : Nat → Nat → Prop) (lb : Nat → Nat × Nat) (v : V) : Prop :=
  ∃ cv, (execOp a.eval o).run P w = .ok (.value cv) w ∧ RF I w lb v cv

theorem Comp.of_gives {o : Oper} {x : Sem Value} {v : V} (he : execOp a.eval o = (do pure (.value (← x)))) (h : Gives P w x I lb v) : Comp P w a o I lb v := by
  obtain ⟨cv, h1, h2⟩ := h
  exact ⟨cv, by rw [he]; simp [h1], h2⟩

set_option maxHeartbeats 2000000 in
theorem compE_sound {lps : List Nat} {o : Oper} {e : E} {v : V} (hc : compE P lps o = some e) (hr : Rel N I s T L lb a w) (hv : evE T L s e = some v) (hn : need T e) :
    Comp P w a o I lb v := by
  have ht := hr.t
  obtain ⟨dst, op, ty, pos, after, guard⟩ := o
  unfold compE at hc
  simp only at hc
  split at hc
  case h_1 x =>
    simp only [Option.map_eq_some_iff] at hc
    obtain ⟨x', hx, rfl⟩ := hc
    simp only [evE, Option.some.injEq] at hv; subst hv
    exact ⟨_, rfl, cX_sound hx ht⟩
  case h_2 x =>
    simp only [Option.map_eq_some_iff] at hc
    obtain ⟨x', hx, rfl⟩ := hc
    simp only [evE, Option.some.injEq] at hv; subst hv
    exact ⟨_, rfl, cX_sound hx ht⟩
  case h_3 c x y =>
    simp only [Option.bind_eq_some_iff, Option.map_eq_some_iff] at hc
    obtain ⟨c', hc', x', hx, y', hy, rfl⟩ := hc
    simp only [evE] at hv
    split at hv
    · rename_i t hct
      have h1 := cX_sound hc' ht
      rw [hct] at h1
      simp only [RF, RV] at h1
      refine ⟨if t then a.eval x else a.eval y, ?_, ?_⟩
      · simp [execOp, h1, asBool]
      · cases hv
        cases t <;> simp only [Bool.false_eq_true, if_false, if_true]
        · exact cX_sound hy ht
        · exact cX_sound hx ht
    · cases hv
  case h_4 op t x y yt =>
    simp only [Option.bind_eq_some_iff] at hc
    obtain ⟨x', hx, y', hy, hc⟩ := hc
    have h1 := cX_sound hx ht
    have h2 := cX_sound hy ht
    split at hc
    · cases hc
      simp only [evE] at hv
      refine .of_gives rfl ?_
      unfold binV at hv
      split at hv
      · rename_i k a' k' b e1 e2
        rw [e1] at h1; rw [e2] at h2
        simp only [RF, RV] at h1 h2
        rw [h1, h2]
        exact gives_int (by simpa only [binV] using hv)
      · rename_i a' b e1 e2
        rw [e1] at h1; rw [e2] at h2
        simp only [RF, RV] at h1 h2
        rw [h1, h2]
        exact gives_str (by simpa only [binV] using hv)
      · cases hv
    · rename_i hns
      have eqb : ∀ (neg : Bool) (op' : BinOp), (neg = true → op' = .neq) → (neg = false → op' = .eql) → P.underlying t = some .bool → evE T L s (.eqb neg x' y') = some v →
          Gives P w (do eqGuard op' t x y (a.eval x) (a.eval y); binOp op' t (a.eval x) (a.eval y)) I lb v := by
        intro neg op' e1 e2 hu hv
        simp only [evE] at hv
        split at hv
        · rename_i p q ep eq
          rw [ep] at h1; rw [eq] at h2
          simp only [RF, RV] at h1 h2
          cases hv
          rw [h1, h2]
          simp only [eqGuard_at_bool]
          have hq : (Op.equal t (.bool p) (.bool q)).run P w = .ok (p == q) w := run_equal_bool hu p q
          cases neg with
          | true => obtain rfl := e1 rfl; exact .mk (.bool (p != q)) (by simp [binOp, hq, bne]) (by simp only [RV, if_true])
          | false => obtain rfl := e2 rfl; exact .mk (.bool (p == q)) (by simp [binOp, hq]) (by simp only [RV, Bool.false_eq_true, if_false])
        · cases hv
      have eqn : ∀ (neg p : Bool) (op' : BinOp), (neg = true → op' = .neq) → (neg = false → op' = .eql) → (p = false → ∃ m, P.underlying t = some (.interface m)) → (p = true → ∃ e, P.underlying t = some (.pointer e)) → isNilConst p y = true →
          evE T L s (.eqn neg p x') = some v → Gives P w (do eqGuard op' t x y (a.eval x) (a.eval y); binOp op' t (a.eval x) (a.eval y)) I lb v := by
        intro neg p op' e1 e2 hu1 hu2 hyc hv
        simp only [evE, Option.map_eq_some_iff] at hv
        obtain ⟨b, hb, rfl⟩ := hv
        obtain ⟨c1, hy1, hx1⟩ : ∃ c1, (a.eval y = c1 ∧ (p = true → c1 = .pointer none) ∧ (p = false → c1 = .nilIface ∧ ∃ c, y = .const c)) ∧
            ((p = true ∧ ∃ o : Option Addr, a.eval x = .pointer o ∧ b = o.isNone) ∨ (p = false ∧ ((a.eval x = .nilIface ∧ b = true) ∨ ∃ tt u, a.eval x = .iface tt u ∧ b = false))) := by
          refine ⟨a.eval y, ⟨rfl, ?_, ?_⟩, ?_⟩
          · rintro rfl
            unfold isNilConst at hyc
            split at hyc <;> first | rfl | simp_all
          · rintro rfl
            unfold isNilConst at hyc
            split at hyc <;> first | exact ⟨rfl, _, rfl⟩ | simp_all
          · unfold isNil at hb
            split at hb <;> first | (cases hb; done) | skip
            all_goals (rename_i e; rw [e] at h1; simp only [RF, RV] at h1; cases hb)
            · exact .inl ⟨rfl, none, h1, rfl⟩
            · exact .inl ⟨rfl, _, h1, rfl⟩
            · obtain ⟨b', o', h1, _⟩ := h1; exact .inl ⟨rfl, _, h1, rfl⟩
            · obtain ⟨b', h1, _⟩ := h1; exact .inl ⟨rfl, _, h1, rfl⟩
            · exact .inr ⟨rfl, .inl ⟨h1, rfl⟩⟩
            · obtain ⟨u, h1, _⟩ := h1; exact .inr ⟨rfl, .inr ⟨_, u, h1, rfl⟩⟩
        have fin : (Op.equal t (a.eval x) (a.eval y)).run P w = .ok b w ∧ eqGuard op' t x y (a.eval x) (a.eval y) = pure () ∧ (∀ op'', op'' = .eql → binOp op'' t (a.eval x) (a.eval y) = (do pure (.bool (← Op.equal t (a.eval x) (a.eval y))))) ∧
            (∀ op'', op'' = .neq → binOp op'' t (a.eval x) (a.eval y) = (do pure (.bool (!(← Op.equal t (a.eval x) (a.eval y)))))) := by
          obtain ⟨hy1, hy2, hy3⟩ := hy1
          rcases hx1 with ⟨rfl, o, hx1, rfl⟩ | ⟨rfl, ⟨hx1, rfl⟩ | ⟨tt, u, hx1, rfl⟩⟩
          · obtain rfl := hy2 rfl
            obtain ⟨e, hu⟩ := hu2 rfl
            rw [hx1, hy1]
            refine ⟨?_, eqGuard_at_pointer _ _ _ _ _ _, by rintro _ rfl; rfl, by rintro _ rfl; rfl⟩
            have h : ∀ d, (Op.equalIn (d + 1) t (.pointer o) (.pointer none)).run P w = .ok o.isNone w := fun d => by cases o <;> simp [Op.equalIn, run_und hu]
            exact h 9999
          · obtain ⟨rfl, c, rfl⟩ := hy3 rfl
            obtain ⟨m, hu⟩ := hu1 rfl
            rw [hx1, hy1]
            refine ⟨?_, eqGuard_nil_constR _ _ _ _, by rintro _ rfl; rfl, by rintro _ rfl; rfl⟩
            have h : ∀ d, (Op.equalIn (d + 1) t .nilIface .nilIface).run P w = .ok true w := fun d => by simp [Op.equalIn, run_und hu]
            exact h 9999
          · obtain ⟨rfl, c, rfl⟩ := hy3 rfl
            obtain ⟨m, hu⟩ := hu1 rfl
            rw [hx1, hy1]
            refine ⟨?_, eqGuard_at_iface _ _ _ _ _ _ _, by rintro _ rfl; rfl, by rintro _ rfl; rfl⟩
            have h : ∀ d, (Op.equalIn (d + 1) t (.iface tt u) .nilIface).run P w = .ok false w := fun d => by simp [Op.equalIn, run_und hu]
            exact h 9999
        obtain ⟨f1, f2, f3, f4⟩ := fin
        rw [f2]
        cases neg with
        | true => obtain rfl := e1 rfl; exact .mk (.bool !b) (by simp [f4 _ rfl, f1]) (by simp only [RV, if_true])
        | false => obtain rfl := e2 rfl; exact .mk (.bool b) (by simp [f3 _ rfl, f1]) (by simp only [RV, Bool.false_eq_true, if_false])
      split at hc
      · cases hc; exact .of_gives rfl (eqb false .eql (by simp) (by simp) (by assumption) hv)
      · cases hc; exact .of_gives rfl (eqb true .neq (by simp) (by simp) (by assumption) hv)
      · split at hc
        · cases hc; exact .of_gives rfl (eqn false false .eql (by simp) (by simp) (fun _ => ⟨_, by assumption⟩) (by simp) (by assumption) hv)
        · cases hc
      · split at hc
        · cases hc; exact .of_gives rfl (eqn true false .neq (by simp) (by simp) (fun _ => ⟨_, by assumption⟩) (by simp) (by assumption) hv)
        · cases hc
      · split at hc
        · cases hc; exact .of_gives rfl (eqn false true .eql (by simp) (by simp) (by simp) (fun _ => ⟨_, by assumption⟩) (by assumption) hv)
        · cases hc
      · split at hc
        · cases hc; exact .of_gives rfl (eqn true true .neq (by simp) (by simp) (by simp) (fun _ => ⟨_, by assumption⟩) (by assumption) hv)
        · cases hc
      · cases hc
  case h_5 t x =>
    simp only [Option.map_eq_some_iff] at hc
    obtain ⟨x', hx, rfl⟩ := hc
    simp only [evE] at hv
    split at hv
    · rename_i b e
      have h1 := cX_sound hx ht
      rw [e] at h1; simp only [RF, RV] at h1
      cases hv
      refine .of_gives (x := Op.unary .not (a.eval x)) rfl ?_
      rw [h1]
      exact .mk (.bool !b) rfl (by simp only [RV])
    · cases hv
  case h_6 t x =>
    simp only [Option.map_eq_some_iff] at hc
    obtain ⟨x', hx, rfl⟩ := hc
    simp only [evE] at hv
    split at hv
    · rename_i k n e
      have h1 := cX_sound hx ht
      rw [e] at h1; simp only [RF, RV] at h1
      cases hv
      refine .of_gives (x := Op.unary .neg (a.eval x)) rfl ?_
      rw [h1]
      exact .mk (.int k (k.wrap (0 - n))) rfl (by simp only [RV])
    · cases hv
  case h_7 src dst x =>
    simp only [Option.bind_eq_some_iff] at hc
    obtain ⟨x', hx, hc⟩ := hc
    have h1 := cX_sound hx ht
    refine .of_gives (x := convert src dst (a.eval x)) rfl ?_
    split at hc
    · rename_i k0 k hs hd
      cases hc
      simp only [evE] at hv
      split at hv
      · rename_i k' n e
        rw [e] at h1; simp only [RF, RV] at h1
        cases hv
        rw [h1]
        exact .mk (.int k (k.wrap n)) (by simp [convert, run_und hs, run_und hd, Conv.intToInt]) (by simp only [RV])
      · cases hv
    · rename_i hs hd
      cases hc
      simp only [evE] at hv
      split at hv
      · rename_i l e
        rw [e] at h1; simp only [RF, RV] at h1
        cases hv
        rw [h1]
        exact .mk (mkStr l) (by simp [convert, run_und hs, run_und hd, mkStr]) (by simp only [RV])
      · cases hv
    · rename_i e hs hd
      split at hc
      · rename_i he
        cases hc
        simp only [evE, b2sV] at hv
        split at hv
        · rename_i xs sp ex tk ex'
          simp only [Option.map_eq_some_iff] at hv
          obtain ⟨l, hl, rfl⟩ := hv
          rw [ex'] at h1
          exact .mk (mkStr l) (by
            obtain ⟨ad, cap, vs, ha, v1, v2, v3, v4, _⟩ := sl_cells (sz := 1) (by simpa only [RF] using h1) (toBytes_len hl)
            obtain ⟨ns, rfl, rfl⟩ := toBytes_rel hl v1
            rw [ha, run_convert_bytes_string w src dst e ad xs.length cap hs he hd]
            cases ad with
            | none =>
              have hx0 : xs = [] := by
                cases xs with
                | nil => rfl
                | cons x xs => obtain ⟨b, o, h⟩ := v3 (by simp); cases h
              subst hx0
              have : ns = [] := by simpa using v2
              subst this
              rfl
            | some ad =>
              have hld := run_loadCells_list (P := P) (w := w) ad (ns.map (Value.int .u8)) (v4 ad rfl)
              rw [v2, Nat.mul_one] at hld
              rw [run_bytesToString w ad xs.length cap ns hld, foldl_push]; simp [mkStr, ByteArray.empty, ByteArray.emptyWithCapacity]; rfl) (by simp only [RV])
        · cases hv
      · cases hc
    · cases hc
  case h_8 t x f =>
    simp only [Option.bind_eq_some_iff] at hc
    obtain ⟨x', hx, hc⟩ := hc
    have h1 := cX_sound hx ht
    refine .of_gives (x := Instr.fieldAt t (a.eval x) f) rfl ?_
    split at hc
    · rename_i fs hu
      simp only [Option.bind_eq_some_iff] at hc
      obtain ⟨fd, hf, n, hn', hc⟩ := hc
      split at hc
      · cases hc
      · rename_i h0
        cases hc
        simp only [evE] at hv
        exact gives_fa hu hf hn' h0 h1 hv
    · cases hc
  case h_9 t x f =>
    simp only [Option.bind_eq_some_iff] at hc
    obtain ⟨x', hx, hc⟩ := hc
    have h1 := cX_sound hx ht
    refine .of_gives (x := Instr.field t (a.eval x) f) rfl ?_
    split at hc
    · rename_i fs hu
      simp only [Option.bind_eq_some_iff, Option.map_eq_some_iff] at hc
      obtain ⟨fd, hf, n, hn', g, hg, rfl⟩ := hc
      simp only [evE] at hv
      split at hv
      · rename_i cs e
        rw [e] at h1
        exact gives_fld hu hf hg hn' h1 hv
      · cases hv
    · cases hc
  case h_10 t x i =>
    simp only [Option.bind_eq_some_iff] at hc
    obtain ⟨x', hx, i', hi, hc⟩ := hc
    have h1 := cX_sound hx ht
    have h2 := cX_sound hi ht
    refine .of_gives (x := Instr.indexAt t (a.eval x) (a.eval i)) rfl ?_
    split at hc
    · rename_i e hu
      simp only [Option.map_eq_some_iff] at hc
      obtain ⟨n, hn', rfl⟩ := hc
      simp only [evE] at hv
      cases hin : natOf (i'.ev T) with
      | none => rw [hin] at hv; cases hx' : x'.ev T <;> rw [hx'] at hv <;> cases hv
      | some m => rw [hin] at hv; exact gives_ia hu hn' h1 h2 hin hv
    · rename_i len e hu
      simp only [Option.map_eq_some_iff] at hc
      obtain ⟨n, hn', rfl⟩ := hc
      simp only [evE] at hv
      cases hin : natOf (i'.ev T) with
      | none => rw [hin] at hv; cases hx' : x'.ev T <;> rw [hx'] at hv <;> cases hv
      | some m => rw [hin] at hv; exact gives_iaa hu hn' h1 h2 hin hv
    · cases hc
  case h_11 t x i =>
    simp only [Option.bind_eq_some_iff] at hc
    obtain ⟨x', hx, i', hi, hc⟩ := hc
    have h1 := cX_sound hx ht
    have h2 := cX_sound hi ht
    refine .of_gives (x := Instr.index t (a.eval x) (a.eval i)) rfl ?_
    split at hc
    · rename_i hu
      cases hc
      simp only [evE] at hv
      have hv' := hv
      unfold ixV at hv
      split at hv
      · rename_i l n e hin
        rw [e] at h1; simp only [RF, RV] at h1
        rw [h1]
        exact gives_ix hu h2 hin (by rw [e, hin] at hv'; exact hv')
      · cases hv
    · rename_i len e hu
      simp only [Option.bind_eq_some_iff, Option.map_eq_some_iff] at hc
      obtain ⟨n, hn', g, hg, rfl⟩ := hc
      simp only [evE] at hv
      have hv' := hv
      unfold ixaV at hv
      split at hv
      · rename_i cs m e' hin
        rw [e'] at h1
        exact gives_ixa hu hg hn' h1 h2 hin (by rw [e', hin] at hv'; exact hv')
      · cases hv
    · cases hc
  case h_12 t x =>
    simp only [Option.bind_eq_some_iff, Option.map_eq_some_iff] at hc
    obtain ⟨x', hx, n, hn', g, hg, rfl⟩ := hc
    have h1 := cX_sound hx ht
    refine .of_gives (x := Instr.loadAt t (a.eval x)) rfl ?_
    simp only [evE] at hv
    split at hv
    · rename_i cs o e
      obtain ⟨b, base, hb, hm⟩ := hr.mem h1 e
      rw [hb]
      exact gives_load hg hn' hm hv
    · cases hv
  case h_13 x i =>
    simp only [Option.map_eq_some_iff] at hc
    obtain ⟨x', hx, rfl⟩ := hc
    have h1 := cX_sound hx ht
    refine .of_gives (x := Instr.extract (a.eval x) i) rfl ?_
    simp only [evE] at hv
    split at hv
    · rename_i vs e
      rw [e] at h1; simp only [RF, RV] at h1
      obtain ⟨as, ha, hvs⟩ := h1
      obtain ⟨c, hc, hrv⟩ := hvs.get hv
      rw [ha]
      have : as[i]? = some c := by simpa using hc
      exact .mk c (by simp [Instr.extract, this]) hrv
    · cases hv
  case h_14 f fi ca =>
    simp only [Option.bind_eq_some_iff, Option.map_eq_some_iff] at hc
    obtain ⟨fi', hfi, ca', hca, rfl⟩ := hc
    simp only [evE] at hv
    split at hv
    · rename_i hk
      simp only [Bool.and_eq_true, List.all_eq_true] at hk
      cases hv
      refine .of_gives (x := Instr.makeFunc (.func f) (fi.map a.eval) (ca.map a.eval)) rfl ?_
      refine .mk (.func (.func f) (fi.map a.eval) (ca.map a.eval)) rfl ?_
      simp only [RV]
      refine ⟨_, _, rfl, ?_, ?_⟩
      · simpa using cXs_sound hfi ht hk.1
      · simpa using cXs_sound hca ht hk.2
    · cases hv
  case h_15 t x =>
    simp only [Option.bind_eq_some_iff] at hc
    obtain ⟨x', hx, hc⟩ := hc
    have h1 := cX_sound hx ht
    split at hc
    · cases hc
    · rename_i d hu hni
      cases hc
      simp only [evE] at hv
      split at hv
      · rename_i hk
        cases hv
        refine .of_gives (x := Instr.makeInterface t (a.eval x)) rfl ?_
        refine .mk (.iface t (a.eval x)) ?_ (by simp only [RV]; exact ⟨_, rfl, RF.rv hk h1⟩)
        simp only [Instr.makeInterface, Sem.run_bind, run_und hni, Result.andThen_ok]
        cases d <;> first | rfl | (exact absurd rfl (hu _))
      · cases hv
    · cases hc
  case h_16 t x lo hi mx =>
    simp only [Option.bind_eq_some_iff] at hc
    obtain ⟨x', hx, lo', hlo, hi', hhi, mx', hmx, hc⟩ := hc
    have h1 := cX_sound hx ht
    have hco : ∀ {o : Option Operand} {y : Option X}, cOpt o = some y → (match o with | none => some none | some o => (cX o).map some) = some y := by
      intro o y h; cases o <;> exact h
    refine .of_gives (x := Instr.sliceAt t (a.eval x) (lo.map a.eval) (hi.map a.eval) (mx.map a.eval)) rfl ?_
    split at hc
    · rename_i hu
      cases hc
      simp only [evE] at hv
      split at hv
      · rename_i l h m b1 b2 b3
        refine gives_slc (sz := 0) ht (st := true) hu ?_ h1 (hco hlo) (hco hhi) (hco hmx) b1 b2 b3 hv
        intro xs sp ex tk e
        rw [e] at hv; simp [slcV] at hv
      · cases hv
    · rename_i e hu
      simp only [Option.map_eq_some_iff] at hc
      obtain ⟨n, hn', rfl⟩ := hc
      simp only [evE] at hv
      split at hv
      · rename_i l h m b1 b2 b3
        refine gives_slc (sz := n) ht (st := false) ⟨e, hu, hn'⟩ ?_ h1 (hco hlo) (hco hhi) (hco hmx) b1 b2 b3 hv
        intro xs sp ex tk e'
        simp only [need, e', needS] at hn
        exact hn
      · cases hv
    · cases hc
  case h_17 x =>
    simp only [Option.map_eq_some_iff] at hc
    obtain ⟨x', hx, rfl⟩ := hc
    have h1 := cX_sound hx ht
    simp only [evE] at hv
    obtain ⟨⟨ad, had⟩, hv'⟩ := gives_nilck h1 hv
    rw [had] at hv'
    exact ⟨.pointer (some ad), by simp [execOp, had], hv'⟩
  case h_18 t parts =>
    simp only [Option.bind_eq_some_iff] at hc
    obtain ⟨it, hit, z, hz, zl, hzl, hc⟩ := hc
    have hzr := cLeafs_sound hzl I w
    refine .of_gives (x := Instr.build t (parts.map fun (i, x) => (i, a.eval x))) rfl ?_
    have hpl : (parts.map fun (x : Nat × Operand) => (x.1, a.eval x.2)).toList = parts.toList.map fun p => (p.1, a.eval p.2) := by simp
    split at hc
    · rename_i fs hu
      simp only [Option.bind_eq_some_iff, Option.map_eq_some_iff] at hc
      obtain ⟨places, hpl', ps, hps, rfl⟩ := hc
      simp only [evE, Option.map_eq_some_iff] at hv
      obtain ⟨cs, hcs, rfl⟩ := hv
      obtain ⟨cells, hf, hrs⟩ := fill_rel (lb := lb) _ _ z.cells zl cs hzr (cParts_rel ht hps) hcs
      refine .mk (.agg cells) (run_build w t _ cells ?_) (by simp only [RV]; exact ⟨_, rfl, hrs⟩)
      simp only [Program.built, hit, hu, hz, hpl', hpl]
      exact hf
    · rename_i len e hu
      simp only [Option.bind_eq_some_iff, Option.map_eq_some_iff] at hc
      obtain ⟨ie, hie, ps, hps, rfl⟩ := hc
      simp only [evE, Option.map_eq_some_iff] at hv
      obtain ⟨cs, hcs, rfl⟩ := hv
      obtain ⟨cells, hf, hrs⟩ := fill_rel (lb := lb) _ _ z.cells zl cs hzr (cParts_rel ht hps) hcs
      refine .mk (.agg cells) (run_build w t _ cells ?_) (by simp only [RV]; exact ⟨_, rfl, hrs⟩)
      simp only [Program.built, hit, hu, hz, hie, hpl]
      exact hf
    · cases hc
  case h_19 as ts =>
    split at hc
    · rename_i x t has hts
      simp only [Option.bind_eq_some_iff] at hc
      obtain ⟨x', hx, hc⟩ := hc
      have h1 := cX_sound hx ht
      have ea : as = #[x] := by rw [← has]
      have et : ts = #[t] := by rw [← hts]
      subst ea et
      refine .of_gives (x := Builtin.len_ #[t] ty #[a.eval x]) ?_ ?_
      · simp [execOp, resolve, invoke, builtin]
      · split at hc
        · rename_i hu
          cases hc; simp only [evE] at hv
          exact gives_len (st := true) hu h1 hv
        · rename_i e hu
          cases hc; simp only [evE] at hv
          exact gives_len (st := false) ⟨e, hu⟩ h1 hv
        · cases hc
    · cases hc
  case h_20 as ts =>
    split at hc
    · rename_i x t has hts
      simp only [Option.bind_eq_some_iff] at hc
      obtain ⟨x', hx, hc⟩ := hc
      have h1 := cX_sound hx ht
      have ea : as = #[x] := by rw [← has]
      have et : ts = #[t] := by rw [← hts]
      subst ea et
      refine .of_gives (x := Builtin.cap_ #[t] ty #[a.eval x]) ?_ ?_
      · simp [execOp, resolve, invoke, builtin]
      · split at hc
        · rename_i e hu
          cases hc; simp only [evE] at hv
          exact gives_cap hu h1 hv
        · cases hc
    · cases hc
  case h_21 => cases hc
end

end Go.VL

/-
  VlG: how what is told of a frame stays through a step: calls, new blocks, stores.
-/
namespace Go.VL
open Go

theorem RVp.keeps {I I' : Nat → Nat → Prop} {w w' : World} (hk : Keeps I w I' w') {cs : List V} {vs : List Value} (h : RVp I w cs vs) : RVp I' w' cs vs :=
  ⟨h.1, RVs.keeps hk _ _ h.2⟩

theorem RelH.lt_c {I : Nat → Nat → Prop} {s : H} {w : World} (h : RelH I s w) {b : Nat} {cs : List V} (hb : s.c b = some cs) : b < w.heap.size := by
  obtain ⟨⟨vs, t, hv, _⟩, _⟩ := h.hc b cs hb
  exact (Array.getElem?_eq_some_iff.1 hv).1
theorem RelH.lt_f {I : Nat → Nat → Prop} {s : H} {w : World} (h : RelH I s w) {b : Nat} {n : Nat × Nat} (hb : s.f b = some n) : b < w.heap.size := by
  obtain ⟨_, vs, t, hv, _⟩ := h.hf b n.1 n.2 hb
  exact (Array.getElem?_eq_some_iff.1 hv).1
theorem RelH.lt {I : Nat → Nat → Prop} {s : H} {w : World} (h : RelH I s w) {b : Nat} (hb : s.owned b) : b < w.heap.size := by
  rcases hb with hb | hb | hb
  · cases hc : s.c b with
    | none => exact absurd hc hb
    | some cs => exact h.lt_c hc
  · cases hc : s.f b with
    | none => exact absurd hc hb
    | some cs => exact h.lt_f hc
  · cases hc : s.y b with
    | none => exact absurd hc hb
    | some y => exact (h.hy b y hc).1.lt
theorem RelH.lt_y {I : Nat → Nat → Prop} {s : H} {w : World} (h : RelH I s w) {b : Nat} (hb : s.y b ≠ none) : b < w.heap.size := h.lt (.inr (.inr hb))
theorem RelH.y_c {I : Nat → Nat → Prop} {s : H} {w : World} (h : RelH I s w) {b : Nat} (hb : s.y b ≠ none) {vs : Array Value} {t : TypeId} {r : Nat × Nat} : w.heap[b]? ≠ some (.cells vs t r) := by
  cases hc : s.y b with
  | none => exact absurd hc hb
  | some y => exact (h.hy b y hc).1.no_cells

/-- the moment at which a call began. -/
structure Entry where
  I : Nat → Nat → Prop
  s : H
  w : World

def Ok (N : Fr) (E : Entry) (T : Nat → V) (L : Nat → Nat × List V) (s : H) (a : Act) (w : World) : Prop :=
  ∃ I lb, Rel N I s T L lb a w ∧ Sin E.I E.s E.w I s w ∧ ∀ k, (L k).2 ≠ [] → E.w.heap.size ≤ (lb k).2

section
variable {N : Fr} {I I' : Nat → Nat → Prop} {s s' : H} {T : Nat → V} {L : Nat → Nat × List V} {lb : Nat → Nat × Nat} {a : Act} {w w' : World}

/-- a slot is filled. -/
theorem Rel.put {v : V} {cv : Value} (hr : Rel N I s T L lb a w) {d : Option Nat} (hd : ∀ x, d = some x → x < N) (hv : RF I w lb v cv) :
    Rel N I s (put T d v) L lb (a.put d cv) w := by
  cases d with
  | none => exact hr
  | some d =>
    have hd := hd d rfl
    refine ⟨hr.h, fun i => ?_, ?_, hr.d, hr.u, hr.l, hr.j⟩
    · simp only [Go.VL.put, upd, Act.put]
      have hn := hr.n
      by_cases h : i = d
      · subst h
        simp [hn, hd]; exact hv
      · simp only [if_neg h]
        have := hr.t i
        rw [Array.getD_eq_getD_getElem?, Array.getElem?_setIfInBounds_ne (fun e => h e.symm), ← Array.getD_eq_getD_getElem?]
        exact this
    · simp only [Act.put, Array.size_setIfInBounds]; exact hr.n

/-- a later world, in which what is owned has turned. -/
theorem Rel.after (hr : Rel N I s T L lb a w) (hs : Sin I s w I' s' w') (hh : RelH I' s' w') : Rel N I' s' T L lb a w' where
  h := hh
  t i := RF.keeps hs.keeps (hr.t i)
  n := hr.n
  d := hr.d.world (fun D ho hD => by rw [hs.same D ho (Array.getElem?_eq_some_iff.1 hD).1]; exact hD)
    (fun D hlt ho => by
      rcases hs.own D ho with h | h
      · exact h
      · omega)
    (fun D o hlt hno hi => by
      rcases hs.new D o hi with h | h | h
      · exact h
      · exact absurd h hno
      · omega)
  u := hr.u
  l k hk := by
    obtain ⟨⟨vs, t, hb, hv⟩, ho, hi⟩ := hr.l k hk
    have hlt : (lb k).2 < w.heap.size := (Array.getElem?_eq_some_iff.1 hb).1
    refine ⟨⟨vs, t, by rw [hs.same _ ho hlt]; exact hb, RVs.keeps hs.keeps _ _ hv⟩, fun h => ?_, fun o h => ?_⟩
    · rcases hs.own _ h with h | h
      · exact ho h
      · omega
    · rcases hs.new _ _ h with h | h | h
      · exact hi o h
      · exact ho h
      · omega
  j := hr.j

theorem Ok.after {E : Entry} (hr : Rel N I s T L lb a w) (he : Sin E.I E.s E.w I s w) (hf : ∀ k, (L k).2 ≠ [] → E.w.heap.size ≤ (lb k).2) (hs : Sin I s w I' s' w') (hh : RelH I' s' w')
    {d : Option Nat} (hd : ∀ x, d = some x → x < N) {v : V} {cv : Value} (hv : RF I' w' lb v cv) : Ok N E (Go.VL.put T d v) L s' (a.put d cv) w' :=
  ⟨I', lb, (hr.after hs hh).put hd hv, he.trans hs, hf⟩

/-- nothing has turned but a count. -/
theorem Keeps.of_heap {w w' : World} (h : w'.heap = w.heap) (I : Nat → Nat → Prop) : Keeps I w I w' := ⟨fun _ _ h => h, fun b o _ => by simp only [World.cell?, h]⟩

theorem RelH.of_heap (h : RelH I s w) (hh : w'.heap = w.heap) : RelH I s w' where
  hc b cs hb := by
    obtain ⟨⟨vs, t, h1, h2⟩, h3⟩ := h.hc b cs hb
    exact ⟨⟨vs, t, by rw [hh]; exact h1, h2.keeps (.of_heap hh I)⟩, h3⟩
  hf b n m hb := by rw [hh]; exact h.hf b n m hb
  hg x hx := RVm.keeps (.of_heap hh I) _ _ _ (h.hg x hx)
  hi b o hb := by rw [hh]; exact h.hi b o hb
  hy := h.yes (.of_heap hh I) (fun b _ => by rw [hh]) (fun _ _ _ h => h)

theorem Sin.of_heap (hh : w'.heap = w.heap) (ho : w'.os = w.os) (hu : w'.output = w.output) (ht : w'.tape = w.tape) : Sin I s w I s w' where
  size := by rw [hh]; exact Nat.le_refl _
  keeps := .of_heap hh I
  new _ _ h := .inl h
  own _ h := .inl h
  same b _ _ := by rw [hh]
  os := ho
  output := hu
  tape := ht

/-- a new block. -/
theorem alloc_old {o : Obj} {b : Nat} (h : b < w.heap.size) : (w.alloc o).heap[b]? = w.heap[b]? := by
  simp only [World.alloc, Array.getElem?_push]; rw [if_neg (by omega)]
theorem alloc_new {o : Obj} : (w.alloc o).heap[w.heap.size]? = some o := by simp only [World.alloc, Array.getElem?_push_size]
theorem Keeps.alloc {o : Obj} (hi : ∀ b o, I b o → b < w.heap.size) (hI : ∀ b o, I b o → I' b o) : Keeps I w I' (w.alloc o) :=
  ⟨hI, fun b o h => by simp only [World.cell?, alloc_old (hi b o h)]⟩

theorem RelH.alloc {o : Obj} (h : RelH I s w) (hI : ∀ b o, I b o → I' b o) (hn : ∀ b o, I' b o → I b o ∨ b = w.heap.size) : RelH I' s (w.alloc o) where
  hc b cs hb := by
    obtain ⟨⟨vs, t, h1, h2⟩, h3⟩ := h.hc b cs hb
    have hl := h.lt_c hb
    refine ⟨⟨vs, t, by rw [alloc_old hl]; exact h1, h2.keeps (.alloc h.hi hI)⟩, fun o ho => ?_⟩
    rcases hn b o ho with h | h
    · exact h3 o h
    · omega
  hf b n m hb := by
    obtain ⟨h0, vs, t, h1, h2, h3, h4⟩ := h.hf b n m hb
    have hl := h.lt_f hb
    refine ⟨h0, vs, t, by rw [alloc_old hl]; exact h1, h2, h3, fun o ho hi => ?_⟩
    rcases hn b o hi with h | h
    · exact h4 o ho h
    · omega
  hg x hx := RVm.keeps (.alloc h.hi hI) _ _ _ (h.hg x hx)
  hi b o hb := by
    rcases hn b o hb with h' | h'
    · have := h.hi b o h'; rw [World.size_alloc]; omega
    · rw [World.size_alloc]; omega
  hy := h.yes (.alloc h.hi hI) (fun b hb => alloc_old (h.lt_y hb)) (fun b o hb hi => by
    rcases hn b o hi with h' | h'
    · exact h'
    · have := h.lt_y hb; omega)

theorem Sin.alloc {o : Obj} (h : RelH I s w) (hI : ∀ b o, I b o → I' b o) (hn : ∀ b o, I' b o → I b o ∨ b = w.heap.size) : Sin I s w I' s (w.alloc o) where
  size := by rw [World.size_alloc]; omega
  keeps := .alloc h.hi hI
  new b o hb := (hn b o hb).imp id fun h => .inr (by omega)
  own _ h := .inl h
  same b _ hl := alloc_old hl
  os := rfl
  output := rfl
  tape := rfl

/-- a new block that is owned whole. -/
theorem RelH.own {b : Nat} {cs : List V} {vs : Array Value} {t : TypeId} (h : RelH I s w) (hb : w.heap[b]? = some (.cells vs t (0, 0))) (hv : RVp I w cs vs.toList) (hi : ∀ o, ¬ I b o) (hf : s.f b = none) :
    RelH I { s with c := upd s.c b (some cs) } w where
  hc b' cs' hb' := by
    simp only [upd] at hb'
    split at hb'
    · rename_i e; subst e; cases hb'; exact ⟨⟨vs, t, hb, hv⟩, hi⟩
    · exact h.hc b' cs' hb'
  hf b' n m hb' := by
    obtain ⟨h0, h1⟩ := h.hf b' n m hb'
    refine ⟨?_, h1⟩
    simp only [upd]
    split
    · rename_i e; subst e; rw [hf] at hb'; cases hb'
    · exact h0
  hg := h.hg
  hi := h.hi
  hy := h.hy

end

end Go.VL
