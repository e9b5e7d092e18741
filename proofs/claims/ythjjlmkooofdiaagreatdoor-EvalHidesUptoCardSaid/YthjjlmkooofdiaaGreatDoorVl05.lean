/-
  a part of the proof: the texts VlIa, VlJ, VlK, VlL, joined: helper laws; none of them is the statement.
-/
import Derived.Test.YthjjlmkooofdiaaGreatDoorVl04
import Derived.Orders
import Derived.RangeFuncCalls
import Derived.OrdersIn

/-
  VlIa: comparing a slice with nil; a slice literal of nothing; append into a new block that is owned whole.
-/
namespace Go.VL
open Go

section
variable {P : Program} {N : Fr} {En : Entry} {s : H} {T : Nat → V} {L : Nat → Nat × List V} {a : Act} {w : World} {K : Post} {Q : Exit → Act → World → Prop} {lps : List Nat} {o : Oper}

theorem run_equal_slice {t e : TypeId} (hu : P.underlying t = some (.slice e)) (ad : Option Addr) (n c : Nat) (w : World) : (Op.equal t (.slice ad n c) (.slice none 0 0)).run P w = .ok ad.isNone w := by
  have h : ∀ d, (Op.equalIn (d + 1) t (.slice ad n c) (.slice none 0 0)).run P w = .ok ad.isNone w := fun d => by cases ad <;> simp [Op.equalIn, run_und hu]
  exact h 9999

/-- a slice beside nil. -/
theorem r_nils {neg : Bool} {d : Nat} {t yt e : TypeId} {x y : Operand} {x' : X} (ho : o.op = .binOp (if neg then .neq else .eql) t x y yt) (hy : y = .const (.slice none 0 0)) (hd : o.dst = some d) (hN : d < N)
    (hu : P.underlying t = some (.slice e)) (hx : cX x = some x') (h : Ok N En T L s a w) (hw : wpR P (.nils neg d x') K T L s) : o.wp P a w (Nx N En K) Q := by
  obtain ⟨I, lb, hr, hs, hf⟩ := h
  have h1 := cX_sound hx hr.t
  simp only [wpR] at hw
  split at hw
  · rename_i xs sp ex tk e1
    rw [e1] at h1
    simp only [RF, RV] at h1
    obtain ⟨ad, cap, ha, q1, q2, q3, q4, q5, q6⟩ := h1
    have hrun : (execOp a.eval o).run P w = .ok (.value (.bool (if neg then !ad.isNone else ad.isNone))) w := by
      obtain ⟨dst, op, ty, pos, after, guard⟩ := o
      simp only at ho; subst ho; subst hy
      have e2 : ∀ op', op' = (if neg then BinOp.neq else BinOp.eql) → (eqGuard op' t x (.const (.slice none 0 0)) (.slice ad xs.length cap) (.slice none 0 0) = pure ()) := by
        rintro _ rfl; cases neg <;> rfl
      have ec : a.eval (.const (.slice none 0 0)) = .slice none 0 0 := rfl
      simp only [execOp, ha, ec, e2 _ rfl, Sem.run_bind, Sem.run_pure, Result.andThen_ok]
      have := run_equal_slice (P := P) hu ad xs.length cap w
      cases neg <;> simp [binOp, this]
    refine wp_value hrun ⟨_, L, s, ⟨I, lb, hr.put (d := o.dst) (v := .bool (if neg then !ad.isNone else ad.isNone)) (by rw [hd]; rintro x ⟨⟩; exact hN) (RF.of_rv (by simp only [RV])), hs, hf⟩, ?_⟩
    rw [hd]
    by_cases hx0 : xs = []
    · exact hw.2 hx0 _
    · have : ad.isNone = false := by
        have hl : 0 < xs.length := List.length_pos_iff.2 hx0
        obtain ⟨b, o, k, rfl, _⟩ := q6 (by omega)
        rfl
      have hk := hw.1 hx0
      rw [this]
      cases neg <;> exact hk
  · exact hw.elim

theorem run_bsl0 {t e : TypeId} {ie : TypeInfo} (hu : P.underlying t = some (.slice e)) (hi : P.info? e = some ie) (w : World) :
    (Instr.buildSlice t 0 #[]).run P w = .ok (.slice (some ⟨w.heap.size, 0, none⟩) 0 0) (w.alloc (.cells #[] e)) := by
  have hr : Array.range 0 = #[] := rfl
  simp [Instr.buildSlice, run_und hu, sizeOf, run_info hi, Instr.fill, newRow, newObj, hr]
  rfl

/-- a slice literal of nothing. -/
theorem r_bsl0 {d : Nat} {t e : TypeId} {parts : Array (Nat × Operand)} {ie : TypeInfo} (ho : o.op = .buildSlice t 0 parts) (hp : parts.toList = []) (hd : o.dst = some d) (hN : d < N)
    (hu : P.underlying t = some (.slice e)) (hi : P.info? e = some ie) (h : Ok N En T L s a w) (hw : wpR P (.bsl0 d) K T L s) : o.wp P a w (Nx N En K) Q := by
  obtain ⟨I, lb, hr, hs, hf⟩ := h
  simp only [wpR] at hw
  obtain rfl : parts = #[] := Array.toList_inj.1 (by simpa using hp)
  have hrun : (execOp a.eval o).run P w = .ok (.value (.slice (some ⟨w.heap.size, 0, none⟩) 0 0)) (w.alloc (.cells #[] e)) := by
    obtain ⟨dst, op, ty, pos, after, guard⟩ := o
    simp only at ho; subst ho
    simp [execOp, run_bsl0 hu hi]
  refine wp_value hrun ⟨_, L, s, Ok.after (v := .sl [] [] true none) hr hs hf (Sin.alloc hr.h (fun _ _ h => h) (fun _ _ h => .inl h)) (hr.h.alloc (fun _ _ h => h) (fun _ _ h => .inl h)) (by rw [hd]; rintro x ⟨⟩; exact hN) (RF.of_rv ?_), ?_⟩
  · simp only [RV]
    exact ⟨_, 0, rfl, by simp, by simp, by decide, by simp, by simp, by simp⟩
  · rw [hd]; exact hw

/-- append, to nothing, into a new block that is owned whole. -/
theorem r_apph {d sz : Nat} {x y : Operand} {x' y' : X} {t e : TypeId} {i : TypeInfo} {z : Value} (ho : o.op = .call { callee := .builtin .append, args := #[x, y], argTypes := #[t, t] }) (hd : o.dst = some d) (hN : d < N)
    (ht : P.underlying t = some (.slice e)) (hi : P.info? e = some i) (hz : i.zero = some z) (hsz : i.size = sz) (hby : i.bytes ≤ 1024)
    (hx : cX x = some x') (hy : cX y = some y') (h : Ok N En T L s a w) (hw : wpR P (.apph d sz x' y') K T L s) : o.wp P a w (Nx N En K) Q := by
  obtain ⟨I, lb, hr, hs, hf⟩ := h
  have hN' : ∀ d, o.dst = some d → d < N := by rw [hd]; rintro _ ⟨⟩; exact hN
  have h1 := cX_sound hx hr.t
  have h2 := cX_sound hy hr.t
  simp only [wpR] at hw
  split at hw
  · rename_i xs sp ex tk ys sp' ex' tk' e1 e2
    rw [e1] at h1; rw [e2] at h2
    obtain ⟨rfl, rfl, rfl, hyl, hw1, hw2⟩ := hw
    obtain ⟨ad', cap', us, ha', u1, u2, u3, u4, u5, u6, u7, u8⟩ := sl_cells (sz := sz) (by simpa only [RF] using h2) (fun y hy => (hyl y hy).1)
    simp only [RF, RV] at h1
    obtain ⟨ad, cap, ha, q1, q2, q3, q4, q5, q6⟩ := h1
    have hc0 : cap = 0 := by simpa using q2
    subst hc0
    have he : execOp a.eval o = (do pure (.value (← Builtin.append_ #[t, t] o.type #[a.eval x, a.eval y]))) := by
      obtain ⟨dst, op, ty, pos, after, guard⟩ := o
      simp only at ho; subst ho
      simp [execOp, resolve, invoke, builtin]
    have run : ∀ {v : Value} {w' : World}, (Builtin.append_ #[t, t] o.type #[a.eval x, a.eval y]).run P w = .ok v w' → (execOp a.eval o).run P w = .ok (.value v) w' := fun h => by
      rw [he]; simp [h]
    rw [ha, ha'] at run
    simp only [List.length_nil] at run
    by_cases hys : ys = []
    · subst hys
      have hr0 := run_append_none (P := P) (w := w) (ty := o.type) ht hi ad ad' 0 0 cap' (Nat.le_refl _)
      refine wp_value (run (by simpa using hr0)) ⟨_, L, s, ⟨I, lb, hr.put (d := o.dst) hN' (v := .sl [] [] true none) (cv := .slice ad 0 0) (RF.of_rv ?_), hs, hf⟩, ?_⟩
      · simp only [RV]
        exact ⟨ad, 0, by simp, by simp, by simp, by decide, by simp, by simp, by simp⟩
      · rw [hd]; exact hw1 rfl
    · obtain ⟨hroom, hk⟩ := hw2 hys
      obtain ⟨b', o', rfl⟩ := u3 hys
      have hypos : 0 < ys.length := List.length_pos_iff.2 hys
      have hneed : ys.length * i.bytes ≤ 140737488355328 := Nat.le_trans (Nat.mul_le_mul_left _ hby) hroom
      have htop : ys.length < top := by unfold top; omega
      have hg := grownCap_top w ys.length 0 e htop
      have hrun : (Builtin.append_ #[t, t] o.type #[.slice ad 0 0, .slice (some ⟨b', o', none⟩) ys.length cap']).run P w =
          .ok (.slice (some ⟨w.heap.size, 0, none⟩) ys.length (grownCap w ys.length 0 e)) (w.drew.alloc (.cells (us.toArray ++ Builtin.zeroCells z.cells (grownCap w ys.length 0 e - ys.length)) e)) := by
        cases ad with
        | none => exact run_append_nil (P := P) w t o.type e i z ht hi hz ⟨b', o', none⟩ ys.length cap' us (by rw [u2, hsz]) (u4 _ rfl) hypos (by unfold top at htop; omega) (by omega)
        | some ad =>
          have := run_append_grow (P := P) w t o.type e i z ht hi hz ad 0 0 [] (by simp) (by simp) ⟨b', o', none⟩ ys.length cap' us (by rw [u2, hsz]) (u4 _ rfl) (by omega) (by unfold top at htop; omega)
            (growslice_fits (by omega) (by simpa using hneed))
          simpa using this
      have hnc : s.c w.heap.size = none := by
        cases hc : s.c w.heap.size with
        | none => rfl
        | some cs => have := hr.h.lt_c hc; omega
      have hnf : s.f w.heap.size = none := by
        cases hc : s.f w.heap.size with
        | none => rfl
        | some cs => have := hr.h.lt_f hc; omega
      -- a draw, a block
      have hdr : Sin I s w I s w.drew := Sin.of_heap rfl rfl rfl rfl
      have hdh : RelH I s w.drew := hr.h.of_heap rfl
      have hsize : w.drew.heap.size = w.heap.size := rfl
      have hal : Sin I s w.drew I s (w.drew.alloc (.cells (us.toArray ++ Builtin.zeroCells z.cells (grownCap w ys.length 0 e - ys.length)) e)) := Sin.alloc hdh (fun _ _ h => h) (fun _ _ h => .inl h)
      have hh := hdh.alloc (o := .cells (us.toArray ++ Builtin.zeroCells z.cells (grownCap w ys.length 0 e - ys.length)) e) (I' := I) (fun _ _ h => h) (fun _ _ h => .inl h)
      have hnew : (w.drew.alloc (.cells (us.toArray ++ Builtin.zeroCells z.cells (grownCap w ys.length 0 e - ys.length)) e)).heap[w.heap.size]? = some (.cells (us.toArray ++ Builtin.zeroCells z.cells (grownCap w ys.length 0 e - ys.length)) e (0, 0)) := alloc_new (w := w.drew)
      have hus := RVs.keeps (hdr.trans hal).keeps _ _ u1
      have hul := hus.length
      have hh2 : RelH I { s with c := upd s.c w.heap.size (some ys.flatten) } (w.drew.alloc (.cells (us.toArray ++ Builtin.zeroCells z.cells (grownCap w ys.length 0 e - ys.length)) e)) :=
        hh.own hnew ⟨by simp [hul], by rw [hul]; simpa using hus⟩ (fun o ho => by have := hr.h.hi _ _ ho; omega) hnf
      have hs2 : Sin I s w I { s with c := upd s.c w.heap.size (some ys.flatten) } (w.drew.alloc (.cells (us.toArray ++ Builtin.zeroCells z.cells (grownCap w ys.length 0 e - ys.length)) e)) := by
        have ht := hdr.trans hal
        refine ⟨ht.size, ht.keeps, ht.new, fun b hb => ?_, ht.same, ht.os, ht.output, ht.tape⟩
        rcases hb with hb | hb
        · simp only [upd] at hb
          split at hb
          · exact .inr (by omega)
          · exact .inl (.inl hb)
        · exact .inl (.inr hb)
      refine wp_value (run hrun) ⟨_, L, _, Ok.after (v := .hs w.heap.size 0 ys.length (grownCap w ys.length 0 e)) hr hs hf hs2 hh2 hN' (RF.of_rv (by simp only [RV])), ?_⟩
      rw [hd]
      exact hk w.heap.size _ hnc hnf hg.2 hg.1
  · exact hw.elim

end

end Go.VL

/-
  VlJ: the machine's operations, turned into those of the layer by program; guards.
-/
namespace Go.VL
open Go

def dstOk (N : Nat) : Option Nat → Bool
  | some d => decide (d < N)
  | none => true

theorem dstOk_spec {N : Nat} {d : Option Nat} (h : dstOk N d = true) : ∀ x, d = some x → x < N := by
  rintro x rfl; simpa [dstOk] using h

def cIx : List (Nat × Operand) → Option (List (Nat × X))
  | [] => some []
  | (i, o) :: r => (cX o).bind fun x => (cIx r).map fun xs => (i, x) :: xs

theorem cIx_spec (sz : Nat) : ∀ {ps : List (Nat × Operand)} {qs : List (Nat × X)}, cIx ps = some qs → cParts (fun i => some (i * sz, sz)) ps = some (qs.map fun p => (p.1 * sz, sz, p.2))
  | [], _, h => by cases h; rfl
  | (i, o) :: r, qs, h => by
    simp only [cIx, Option.bind_eq_some_iff, Option.map_eq_some_iff] at h
    obtain ⟨x, hx, xs, hxs, rfl⟩ := h
    simp only [cParts, Option.bind_some, hx, cIx_spec sz hxs, Option.map_some, List.map_cons]

/-- may values of a type be appended, or made: they have a zero value of their size, and are not big. -/
def elemOk (i : TypeInfo) : Bool :=
  match i.zero with
  | some z => z.cells.size == i.size && decide (i.bytes ≤ 1024)
  | none => false

def boxR (lps : List Nat) (d n : Nat) (x : X) : R := if lps.contains d then .boxl d n x else .boxh d n x

def compI (P : Program) (N : Nat) (lps : List Nat) (o : Oper) : Option R :=
  match o.op with
  | .call { callee := .value (.func f), args := as, argTypes := _ } => if dstOk N o.dst then (cXs as.toList).map fun xs => .call o.dst f xs else none
  | .call { callee := .value x, args := as, argTypes := _ } => if dstOk N o.dst then (cX x).bind fun x' => (cXs as.toList).map fun xs => .callv o.dst x' xs else none
  | .call { callee := .builtin .append, args := as, argTypes := ts } => match as.toList, ts.toList with
    | [x, y], [t, t'] => o.dst.bind fun d => (cX x).bind fun x' => (cX y).bind fun y' =>
      match P.underlying t with
      | some (.slice e) => (P.info? e).bind fun i => if d < N ∧ t' = t ∧ elemOk i = true then (if lps.contains (d + 1000000) then some (.apph d i.size x' y') else some (.app d i.size x' y')) else none
      | _ => none
    | _, _ => none
  | .call { callee := .builtin .cap, args := as, argTypes := ts } => match as.toList, ts.toList with
    | [x], [t] => o.dst.bind fun d => (cX x).bind fun x' =>
      match P.underlying t with
      | some (.slice _) => if d < N then some (.capu d x') else none
      | _ => none
    | _, _ => none
  | .alloc t => o.dst.bind fun d => (P.info? t).bind fun i => i.zero.bind fun z => (cV z).bind fun v => if d < N then some (boxR lps d i.size (.k v)) else none
  | .box t x => o.dst.bind fun d => (cX x).bind fun x' => (sizeOfT P t).bind fun n => if d < N then some (boxR lps d n x') else none
  | .store t a x => (sizeOfT P t).bind fun n => (cX a).bind fun a' => (cX x).bind fun x' => if o.dst = none then some (.st (isLocal lps a) a' x' n) else none
  | .makeSlice t (.const (.int .i64 0)) x => o.dst.bind fun d => (cX x).bind fun x' =>
    match P.underlying t with
    | some (.slice e) => (P.info? e).bind fun i => if d < N ∧ elemOk i = true then some (.mksl d i.size x') else none
    | _ => none
  | .buildSlice t n parts => o.dst.bind fun d =>
    match P.underlying t with
    | some (.slice e) => (P.info? e).bind fun i => i.zero.bind fun z => (cLeafs z.cells.toList).bind fun zl => (cIx parts.toList).bind fun ps =>
      if d < N ∧ z.cells.size = i.size ∧ ¬ n * i.size > 2 ^ 24 ∧ ¬ n * i.size = 0 then some (.bsl d n i.size zl ps) else if d < N ∧ n = 0 ∧ parts.toList = [] then some (.bsl0 d) else none
    | _ => none
  | .binOp op t x (.const (.slice none 0 0)) _ => o.dst.bind fun d => (cX x).bind fun x' =>
    match P.underlying t, op with
    | some (.slice _), .eql => if d < N then some (.nils false d x') else none
    | some (.slice _), .neq => if d < N then some (.nils true d x') else none
    | _, _ => none
  | _ => none

/-- one operation, whatever its guard. -/
def compO (P : Program) (N : Nat) (lps : List Nat) (dr : Bool) (o : Oper) : Option R :=
  match compI P N lps o with
  | some r => some r
  | none => match o.dst with
    | some d => if d < N then (compE P lps o).map fun e => if dr then .p d e else .pf d e else none
    | none => none

section
variable {P : Program} {N : Fr} {En : Entry} {s : H} {T : Nat → V} {L : Nat → Nat × List V} {a : Act} {w : World} {K : Post} {Q : Exit → Act → World → Prop} {lps : List Nat} {o : Oper}

theorem run_box (t : TypeId) (v : Value) (w : World) : (Instr.box t v).run P w = .ok (.pointer (some ⟨w.heap.size, 0, none⟩)) (w.alloc (.cells v.cells t)) := by
  rfl

theorem boxR_sound {d n : Nat} {x : X} {t : TypeId} {cv : Value} (hd : o.dst = some d) (hN : d < N) (he : ∀ w : World, (execOp a.eval o).run P w = .ok (.value (.pointer (some ⟨w.heap.size, 0, none⟩))) (w.alloc (.cells cv.cells t)))
    (h : Ok N En T L s a w) (hx : ∀ (I : Nat → Nat → Prop) (lb : Nat → Nat × Nat), Rel N I s T L lb a w → RF I w lb (x.ev T) cv) (hw : wpR P (boxR lps d n x) K T L s) : o.wp P a w (Nx N En K) Q := by
  unfold boxR at hw
  split at hw
  · exact r_boxl hd hN he h hx hw
  · exact r_boxh hd hN he h hx hw

theorem elemOk_spec {i : TypeInfo} (h : elemOk i = true) : ∃ z, i.zero = some z ∧ z.cells.size = i.size ∧ i.bytes ≤ 1024 := by
  unfold elemOk at h
  split at h
  · rename_i z hz
    simp only [Bool.and_eq_true, beq_iff_eq, decide_eq_true_eq] at h
    exact ⟨z, hz, h.1, h.2⟩
  · cases h

theorem compI_sound {r : R} (hc : compI P N lps o = some r) (h : Ok N En T L s a w) (hw : wpR P r K T L s) : wpY P o a w (Nx N En K) := by
  unfold compI at hc
  split at hc
  · rename_i f as ts ho
    split at hc
    · rename_i hd
      simp only [Option.map_eq_some_iff] at hc
      obtain ⟨xs, hx, rfl⟩ := hc
      exact .inl (r_call ho hx (dstOk_spec hd) h hw)
    · cases hc
  · rename_i x as ts _ ho
    split at hc
    · rename_i hd
      simp only [Option.bind_eq_some_iff, Option.map_eq_some_iff] at hc
      obtain ⟨x', hx', xs, hx, rfl⟩ := hc
      exact r_callv ho hx' hx (dstOk_spec hd) h hw
    · cases hc
  · rename_i as ts ho
    split at hc
    case h_2 => cases hc
    rename_i x y t t' has hts
    obtain rfl : as = #[x, y] := Array.toList_inj.1 (by simpa using has)
    obtain rfl : ts = #[t, t'] := Array.toList_inj.1 (by simpa using hts)
    simp only [Option.bind_eq_some_iff] at hc
    obtain ⟨d, hd, x', hx, y', hy, hc⟩ := hc
    split at hc
    · rename_i e ht
      simp only [Option.bind_eq_some_iff] at hc
      obtain ⟨i, hi, hc⟩ := hc
      split at hc
      · rename_i hh
        obtain ⟨hN, rfl, hok⟩ := hh
        obtain ⟨z, hz, hzs, hby⟩ := elemOk_spec hok
        split at hc
        · cases hc
          exact .inl (r_apph ho hd hN ht hi hz rfl hby hx hy h hw)
        · cases hc
          exact .inl (r_app ho hd hN ht hi hz rfl hzs hby hx hy h hw)
      · cases hc
    · cases hc
  · rename_i as ts ho
    split at hc
    case h_2 => cases hc
    rename_i x t has hts
    obtain rfl : as = #[x] := Array.toList_inj.1 (by simpa using has)
    obtain rfl : ts = #[t] := Array.toList_inj.1 (by simpa using hts)
    simp only [Option.bind_eq_some_iff] at hc
    obtain ⟨d, hd, x', hx, hc⟩ := hc
    split at hc
    · rename_i e ht
      split at hc
      · rename_i hN
        cases hc
        exact .inl (r_capu ho hd hN ht hx h hw)
      · cases hc
    · cases hc
  · rename_i t ho
    simp only [Option.bind_eq_some_iff] at hc
    obtain ⟨d, hd, i, hi, z, hz, v, hv, hc⟩ := hc
    split at hc
    · rename_i hN
      cases hc
      refine .inl <| boxR_sound (cv := z) (t := t) hd hN (fun w => ?_) h (fun I lb _ => ?_) hw
      · obtain ⟨dst, op, ty, pos, after, guard⟩ := o
        simp only at ho; subst ho
        simp [execOp, Instr.alloc, zeroValue, run_info hi, hz, newVar, newRow, newObj]; rfl
      · exact RF.of_rv (cV_sound hv I w)
    · cases hc
  · rename_i t x ho
    simp only [Option.bind_eq_some_iff] at hc
    obtain ⟨d, hd, x', hx, n, hn, hc⟩ := hc
    split at hc
    · rename_i hN
      cases hc
      refine .inl <| boxR_sound (cv := a.eval x) (t := t) hd hN (fun w => ?_) h (fun I lb hr => cX_sound hx hr.t) hw
      obtain ⟨dst, op, ty, pos, after, guard⟩ := o
      simp only at ho; subst ho
      simp only [execOp, Sem.run_bind, run_box, Result.andThen_ok, Sem.run_pure]
    · cases hc
  · rename_i t ad x ho
    simp only [Option.bind_eq_some_iff] at hc
    obtain ⟨n, hn, a', ha, x', hx, hc⟩ := hc
    split at hc
    · rename_i hd
      cases hc
      exact .inl (r_st ho hd hn ha hx h hw)
    · cases hc
  · rename_i t x ho
    simp only [Option.bind_eq_some_iff] at hc
    obtain ⟨d, hd, x', hx, hc⟩ := hc
    split at hc
    · rename_i e ht
      simp only [Option.bind_eq_some_iff] at hc
      obtain ⟨i, hi, hc⟩ := hc
      split at hc
      · rename_i hh
        obtain ⟨hN, hok⟩ := hh
        cases hc
        obtain ⟨z, hz, hzs, hby⟩ := elemOk_spec hok
        exact .inl (r_mksl ho hd hN ht hi hz rfl hby hx h hw)
      · cases hc
    · cases hc
  · rename_i t n parts ho
    simp only [Option.bind_eq_some_iff] at hc
    obtain ⟨d, hd, hc⟩ := hc
    split at hc
    · rename_i e ht
      simp only [Option.bind_eq_some_iff] at hc
      obtain ⟨i, hi, z, hz, zl, hzl, ps, hps, hc⟩ := hc
      split at hc
      · rename_i hh
        obtain ⟨hN, hzc, hs1, hs2⟩ := hh
        cases hc
        exact .inl (r_bsl ho hd hN ht hi hz hzl rfl hzc hs1 hs2 (cIx_spec _ hps) h hw)
      · split at hc
        · rename_i hh
          obtain ⟨hN, rfl, hp⟩ := hh
          cases hc
          exact .inl (r_bsl0 ho hp hd hN ht hi h hw)
        · cases hc
    · cases hc
  · rename_i op t x yt ho
    simp only [Option.bind_eq_some_iff] at hc
    obtain ⟨d, hd, x', hx, hc⟩ := hc
    split at hc
    · rename_i e ht
      split at hc
      · rename_i hN
        cases hc
        exact .inl (r_nils (neg := false) ho rfl hd hN ht hx h hw)
      · cases hc
    · rename_i e ht
      split at hc
      · rename_i hN
        cases hc
        exact .inl (r_nils (neg := true) ho rfl hd hN ht hx h hw)
      · cases hc
    · cases hc
  · cases hc

theorem compO_sound {dr : Bool} {r : R} (hc : compO P N lps dr o = some r) (h : Ok N En T L s a w) (hw : wpR P r K T L s) : wpY P o a w (Nx N En K) := by
  unfold compO at hc
  split at hc
  · rename_i r' hr
    cases hc
    exact compI_sound hr h hw
  · split at hc
    · rename_i d hd
      split at hc
      · rename_i hN
        simp only [Option.map_eq_some_iff] at hc
        obtain ⟨e, he, rfl⟩ := hc
        split at hw
        · exact .inl (r_p he hd hN h hw)
        · exact .inl (r_pf he hd hN h hw)
      · cases hc
    · cases hc

/-- an operation that isn't performed. -/
theorem compO_skip {dr : Bool} {r : R} (hc : compO P N lps dr o = some r) : skipR P r = fun T => put T o.dst (.c undef) := by
  unfold compO at hc
  split at hc
  · rename_i r' hr
    cases hc
    unfold compI at hr
    split at hr
    · split at hr
      · simp only [Option.map_eq_some_iff] at hr
        obtain ⟨xs, _, rfl⟩ := hr; rfl
      · cases hr
    · split at hr
      · simp only [Option.bind_eq_some_iff, Option.map_eq_some_iff] at hr
        obtain ⟨x', _, xs, _, rfl⟩ := hr; rfl
      · cases hr
    · split at hr
      case h_2 => cases hr
      simp only [Option.bind_eq_some_iff] at hr
      obtain ⟨d, hd, x', hx, y', hy, hr⟩ := hr
      split at hr
      · simp only [Option.bind_eq_some_iff] at hr
        obtain ⟨i, hi, hr⟩ := hr
        split at hr
        · split at hr <;> (cases hr; rw [hd]; rfl)
        · cases hr
      · cases hr
    · split at hr
      case h_2 => cases hr
      simp only [Option.bind_eq_some_iff] at hr
      obtain ⟨d, hd, x', hx, hr⟩ := hr
      split at hr
      · split at hr
        · cases hr; rw [hd]; rfl
        · cases hr
      · cases hr
    · simp only [Option.bind_eq_some_iff] at hr
      obtain ⟨d, hd, i, hi, z, hz, v, hv, hr⟩ := hr
      split at hr
      · cases hr; unfold boxR; rw [hd]; split <;> rfl
      · cases hr
    · simp only [Option.bind_eq_some_iff] at hr
      obtain ⟨d, hd, x', hx, n, hn, hr⟩ := hr
      split at hr
      · cases hr; unfold boxR; rw [hd]; split <;> rfl
      · cases hr
    · simp only [Option.bind_eq_some_iff] at hr
      obtain ⟨n, hn, a', ha, x', hx, hr⟩ := hr
      split at hr
      · rename_i hd; cases hr; rw [hd]; rfl
      · cases hr
    · simp only [Option.bind_eq_some_iff] at hr
      obtain ⟨d, hd, x', hx, hr⟩ := hr
      split at hr
      · simp only [Option.bind_eq_some_iff] at hr
        obtain ⟨i, hi, hr⟩ := hr
        split at hr
        · cases hr; rw [hd]; rfl
        · cases hr
      · cases hr
    · simp only [Option.bind_eq_some_iff] at hr
      obtain ⟨d, hd, hr⟩ := hr
      split at hr
      · simp only [Option.bind_eq_some_iff] at hr
        obtain ⟨i, hi, z, hz, zl, hzl, ps, hps, hr⟩ := hr
        split at hr
        · cases hr; rw [hd]; rfl
        · split at hr
          · cases hr; rw [hd]; rfl
          · cases hr
      · cases hr
    · simp only [Option.bind_eq_some_iff] at hr
      obtain ⟨d, hd, x', hx, hr⟩ := hr
      split at hr
      · split at hr
        · cases hr; rw [hd]; rfl
        · cases hr
      · split at hr
        · cases hr; rw [hd]; rfl
        · cases hr
      · cases hr
    · cases hr
  · split at hc
    · rename_i d hd
      split at hc
      · simp only [Option.map_eq_some_iff] at hc
        obtain ⟨e, he, rfl⟩ := hc
        rw [hd]
        split <;> rfl
      · cases hc
    · cases hc

/-- one operation of a region, with its guard. -/
def compG (P : Program) (N : Nat) (lps : List Nat) (dr : Bool) (ops : Array Oper) (o : Oper) : Option R :=
  match o.guard with
  | none => compO P N lps dr o
  | some (j, b) => ((ops[j]?).bind (·.dst)).bind fun g => if g < N ∧ dstOk N o.dst = true then (compO P N lps dr o).map fun r => .gd g b [r] else none

theorem compG_sound {dr : Bool} {ops : Array Oper} {r : R} (hc : compG P N lps dr ops o = some r) (h : Ok N En T L s a w) (hw : wpR P r K T L s) :
    if Region.wanted o (yielded ops a.tmps) then wpY P o a w (Nx N En K) else Nx N En K (a.put o.dst undef) w := by
  unfold compG at hc
  split at hc
  · rename_i hg
    rw [if_pos (by simp [Region.wanted, hg])]
    exact compO_sound hc h hw
  · rename_i j b hg
    simp only [Option.bind_eq_some_iff] at hc
    obtain ⟨g, ⟨oj, hoj, hgj⟩, hc⟩ := hc
    split at hc
    · rename_i hh
      obtain ⟨hgN, hdN⟩ := hh
      simp only [Option.map_eq_some_iff] at hc
      obtain ⟨r', hr', rfl⟩ := hc
      simp only [wpR] at hw
      split at hw
      · rename_i t ht
        obtain ⟨I, lb, hr, hs, hf⟩ := h
        have h1 := hr.t g
        rw [ht] at h1
        simp only [RF, RV] at h1
        have hsz := hr.n
        have hy : yielded ops a.tmps j = some t := by
          have h2 : a.tmps[g]? = some (.bool t) := by
            have hlt : g < a.tmps.size := by rw [hsz]; exact hgN
            rw [Array.getD_eq_getD_getElem?, Array.getElem?_eq_getElem hlt] at h1
            rw [Array.getElem?_eq_getElem hlt]
            simpa using h1
          simp [yielded, hoj, hgj, h2]
        by_cases hb : t = b
        · rw [if_pos (by simp [Region.wanted, hg, hy, hb])]
          rw [if_pos hb] at hw
          have := hw
          simp only [wpRs] at this
          exact compO_sound hr' ⟨I, lb, hr, hs, hf⟩ this
        · rw [if_neg (by simp [Region.wanted, hg, hy, hb])]
          rw [if_neg hb] at hw
          have := hw
          simp only [wpSkip] at this
          rw [compO_skip hr'] at this
          refine ⟨_, L, s, ⟨I, lb, hr.put (dstOk_spec hdN) (RF.of_rv (by simp only [RV])), hs, hf⟩, this⟩
      · rename_i vs ht
        obtain ⟨I, lb, hr, hs, hf⟩ := h
        have h1 := hr.t g
        rw [ht] at h1
        simp only [RF, RV] at h1
        have hsz := hr.n
        have hy : yielded ops a.tmps j = none := by
          have h2 : a.tmps[g]? = some (.tuple vs) := by
            have hlt : g < a.tmps.size := by rw [hsz]; exact hgN
            rw [Array.getD_eq_getD_getElem?, Array.getElem?_eq_getElem hlt] at h1
            rw [Array.getElem?_eq_getElem hlt]
            simpa using h1
          simp [yielded, hoj, hgj, h2]
        rw [if_neg (by simp [Region.wanted, hg, hy])]
        simp only [wpSkip] at hw
        rw [compO_skip hr'] at hw
        exact ⟨_, L, s, ⟨I, lb, hr.put (dstOk_spec hdN) (RF.of_rv (by simp only [RV])), hs, hf⟩, hw⟩
      · exact hw.elim
    · cases hc

def compGs (P : Program) (N : Nat) (lps : List Nat) (dr : Bool) (ops : Array Oper) : List Oper → Option (List R)
  | [] => some []
  | o :: os => (compG P N lps dr ops o).bind fun r => (compGs P N lps dr ops os).map fun rs => r :: rs

end

end Go.VL

/-
  VlK: regions: their operations one behind the other.
-/
namespace Go.VL
open Go

/-- everything is let in; the round that a frame is of. -/
def FW (ro : Option Nat) : Fence := { Fence.wide with round := ro }

theorem FW_round (ro : Option Nat) : (FW ro).round = ro := rfl
theorem FW_fn (ro : Option Nat) (f : FuncId) : (FW ro).fn f := trivial
theorem FW_depth (ro : Option Nat) {p : Prop} (h : (FW ro).depth.isSome = true) : p := by cases h

theorem callsIn_FW {ro : Option Nat} {n : Nat} {P : Program} {f : FuncId} {args : Array Value} {w : World} {R : Ending → World → Prop} : CallsIn (FW ro) n P f args w R ↔ Calls P f args w R :=
  callsIn_wide (n := n)

theorem rowsIn_FW {ro : Option Nat} {n : Nat} {P : Program} {row : String} {args : Array Value} {w : World} {R : Value → World → Prop} (h : Rows P row args w R) : RowsIn (FW ro) n P row args w R :=
  fun c cs _ => let ⟨v, w', r, s⟩ := h c cs; ⟨v, w', r, stepsIn_wide.2 s⟩

def noQ : Exit → Act → World → Prop := fun _ _ _ => False

theorem noQ_out : ¬ LetsOut noQ := fun ⟨_, _, h⟩ => h

section
variable {P : Program} {N : Fr} {En : Entry} {s : H} {T : Nat → V} {L : Nat → Nat × List V} {a : Act} {w : World} {K : Post} {Q : Exit → Act → World → Prop} {lps : List Nat} {o : Oper}

theorem wpIn_of_wp {ro : Option Nat} {n : Nat} {next : Act → World → Prop} (hd : ∀ c, o.op ≠ .defer c) (h : o.wp P a w next noQ) : o.wpIn (FW ro) n P a w next Q := by
  refine ⟨fun _ _ => trivial, ?_⟩
  rw [Oper.semAt_eq _ _ _ hd]
  unfold Oper.wp at h
  generalize (execOp a.eval o).run P w = r at h ⊢
  cases r with
  | ok x w' =>
    cases x with
    | value v => exact h
    | skip => exact h
    | defer d => exact h
    | enter f args =>
      refine ⟨fun h => FW_depth _ h, callsIn_FW.2 (h.mono fun e w'' he => ?_)⟩
      cases e with
      | returned v => exact he
      | panicked c => exact he.elim
      | outgrown => exact absurd he noQ_out
    | row row args => exact ⟨fun h => FW_depth _ h, rowsIn_FW h⟩
    | _ => exact h.elim
  | halt x w' =>
    cases x with
    | panic v => exact h.elim
    | _ => exact h.elim

theorem roundIn_FW {ro : Option Nat} {n : Nat} {P : Program} {l fn : Nat} {tmps : Array Value} {as bd : Code} {w : World} {R : Ending → World → Prop} (h : RoundIn Fence.wide 0 P l fn tmps as bd w R) : RoundIn (FW ro) n P l fn tmps as bd w R :=
  ⟨trivial, fun c cs _ => h.2 c cs (room_wide _)⟩

theorem wpIn_of_wpY {ro : Option Nat} {n : Nat} {next : Act → World → Prop} (hd : ∀ c, o.op ≠ .defer c) (h : wpY P o a w next) : o.wpIn (FW ro) n P a w next Q := by
  rcases h with h | ⟨_, l, fn, tmps, as, bd, h1, h2⟩
  · exact wpIn_of_wp hd h
  · refine ⟨fun _ _ => trivial, ?_⟩
    rw [Oper.semAt_eq _ _ _ hd, h1, Oper.uponIn_round]
    refine ⟨fun h => FW_depth _ h, (roundIn_FW h2).mono fun e w'' he => ?_⟩
    cases e with
    | returned v => exact he
    | panicked c => exact he.elim
    | outgrown => exact he.elim

theorem compI_defer {r : R} (h : compI P N lps o = some r) : ∀ c, o.op ≠ .defer c := by
  intro c e
  unfold compI at h
  rw [e] at h
  cases h

theorem compE_defer {e : E} (h : compE P lps o = some e) : ∀ c, o.op ≠ .defer c := by
  intro c e
  unfold compE at h
  rw [e] at h
  cases h

theorem compO_defer {dr : Bool} {r : R} (h : compO P N lps dr o = some r) : ∀ c, o.op ≠ .defer c := by
  unfold compO at h
  split at h
  · rename_i r' hr; exact compI_defer hr
  · split at h
    · split at h
      · simp only [Option.map_eq_some_iff] at h
        obtain ⟨e, he, _⟩ := h
        exact compE_defer he
      · cases h
    · cases h

theorem compG_defer {dr : Bool} {ops : Array Oper} {r : R} (h : compG P N lps dr ops o = some r) : ∀ c, o.op ≠ .defer c := by
  unfold compG at h
  split at h
  · exact compO_defer h
  · simp only [Option.bind_eq_some_iff] at h
    obtain ⟨g, _, h⟩ := h
    split at h
    · simp only [Option.map_eq_some_iff] at h
      obtain ⟨r', hr', _⟩ := h
      exact compO_defer hr'
    · cases h

theorem compG_in {dr : Bool} {ops : Array Oper} {r : R} {ro : Option Nat} {n : Nat} (hc : compG P N lps dr ops o = some r) (h : Ok N En T L s a w) (hw : wpR P r K T L s) :
    if Region.wanted o (yielded ops a.tmps) then o.wpIn (FW ro) n P a w (Nx N En K) Q else (∀ f, o.about P w a.eval = some f → (FW ro).fn f) ∧ Nx N En K (a.put o.dst undef) w := by
  have := compG_sound hc h hw
  split
  · rename_i hwt
    rw [if_pos hwt] at this
    exact wpIn_of_wpY (compG_defer hc) this
  · rename_i hwt
    rw [if_neg hwt] at this
    exact ⟨fun _ _ => trivial, this⟩

/-- a region whose operations come one behind the other. -/
theorem compGs_sound {dr : Bool} {ops : Array Oper} {ro : Option Nat} {n : Nat} : ∀ (os : List Oper) (i : Nat) {rs : List R} {T : Nat → V} {L : Nat → Nat × List V} {s : H} {a : Act} {w : World},
    ops.toList.drop i = os → compGs P N lps dr ops os = some rs → Ok N En T L s a w → wpRs P rs K T L s → (∀ a w, Nx N En K a w → Q .normal a w) →
    wpOpsIn (FW ro) n P ops Q (List.range' i os.length) a w
  | [], i, rs, T, L, s, a, w, _, hc, h, hw, hq => by
    simp only [compGs, Option.some.injEq] at hc; subst hc
    simp only [wpRs] at hw
    exact hq a w ⟨T, L, s, h, hw⟩
  | o :: os, i, rs, T, L, s, a, w, hd, hc, h, hw, hq => by
    simp only [compGs, Option.bind_eq_some_iff, Option.map_eq_some_iff] at hc
    obtain ⟨r, hr, rs', hrs, rfl⟩ := hc
    simp only [wpRs] at hw
    have ho : ops[i]? = some o := by
      have : (ops.toList.drop i)[0]? = some o := by rw [hd]; rfl
      simpa using this
    have hd' : ops.toList.drop (i + 1) = os := by
      rw [← List.drop_drop, hd]; rfl
    have hgo : ∀ a w, Nx N En (wpRs P rs' K) a w → wpOpsIn (FW ro) n P ops Q (List.range' (i + 1) os.length) a w := fun a w ⟨T', L', s', h1, h2⟩ =>
      compGs_sound os (i + 1) hd' hrs h1 h2 hq
    simp only [List.length_cons, List.range'_succ, wpOpsIn, ho]
    have := compG_in (Q := Q) (ro := ro) (n := n) hr h hw
    split
    · rename_i hwt
      rw [if_pos hwt] at this
      exact Oper.wpIn_mono hgo this
    · rename_i hwt
      rw [if_neg hwt] at this
      exact ⟨this.1, hgo _ _ this.2⟩

theorem region_sound {id : Nat} {ops : Array Oper} {rs : List R} {ro : Option Nat} {n : Nat} (hc : compGs P N lps false ops ops.toList = some rs) (h : Ok N En T L s a w) (hw : wpRs P rs K T L s) (hq : ∀ a w, Nx N En K a w → Q .normal a w) :
    (Code.region id ops false).wpIn (FW ro) n P Q a w := by
  refine wpIn_region ?_
  have := compGs_sound (Q := Q) (ro := ro) (n := n) ops.toList 0 (by simp) hc h hw hq
  rw [List.range_eq_range']
  simpa using this

end

end Go.VL

/-
  VlL: regions whose operations may come in any order that their edges leave open: one order is enough.
-/
namespace Go.VL
open Go

def rdX : X → List Nat
  | .t i => [i]
  | .k _ => []
def rdO : Option X → List Nat
  | some x => rdX x
  | none => []

/-- slots that are read. -/
def rdE : E → List Nat
  | .mv x | .eqn _ _ x | .not x | .neg x | .len _ x | .cap x | .fld x _ _ _ | .fa x _ | .ld _ x _ _ | .ext x _ | .mkif _ x | .nilck x | .cvi _ x | .cvs x | .b2s x => rdX x
  | .pick c a b => rdX c ++ rdX a ++ rdX b
  | .bin _ x y | .eqb _ x y | .ia x y _ | .iaa x y _ _ | .ix x y | .ixa x y _ _ _ => rdX x ++ rdX y
  | .mkfn _ fi ca => fi.flatMap rdX ++ ca.flatMap rdX
  | .slc _ x lo hi mx _ => rdX x ++ rdO lo ++ rdO hi ++ rdO mx
  | .build _ parts => parts.flatMap fun p => rdX p.2.2

/-- does it read memory: none: no; else: of the frame alone. -/
def ldE : E → Option Bool
  | .ld loc _ _ _ => some loc
  | _ => none

section
variable {T T' : Nat → V} {L L' : Nat → Nat × List V} {s s' : H}

theorem X.ev_agree {x : X} (h : ∀ i ∈ rdX x, T' i = T i) : x.ev T' = x.ev T := by
  cases x with
  | t i => exact h i (by simp [rdX])
  | k v => rfl

theorem boundO_agree {o : Option X} (h : ∀ i ∈ rdO o, T' i = T i) : boundO T' o = boundO T o := by
  cases o with
  | none => rfl
  | some x => simp only [boundO, X.ev_agree (T := T) (T' := T') h]

theorem map_agree {xs : List X} (h : ∀ i ∈ xs.flatMap rdX, T' i = T i) : xs.map (X.ev T') = xs.map (X.ev T) :=
  List.map_congr_left fun x hx => X.ev_agree fun i hi => h i (List.mem_flatMap.2 ⟨x, hx, hi⟩)

theorem all_agree {xs : List X} {p : V → Bool} (h : ∀ i ∈ xs.flatMap rdX, T' i = T i) : (xs.all fun x => p (x.ev T')) = (xs.all fun x => p (x.ev T)) := by
  induction xs with
  | nil => rfl
  | cons x xs ih =>
    simp only [List.all_cons]
    rw [X.ev_agree (T := T) (T' := T') (x := x) fun i hi => h i (by simp [hi]), ih fun i hi => h i (by simp only [List.flatMap_cons, List.mem_append]; exact .inr hi)]

/-- what an operation gives goes by the slots that it reads, and by memory if it reads memory. -/
theorem evE_agree {e : E} (h : ∀ i ∈ rdE e, T' i = T i) (h1 : ldE e ≠ none → L' = L) (h2 : ldE e = some false → s' = s) : evE T' L' s' e = evE T L s e := by
  have two : ∀ {x y : X}, (∀ i ∈ rdX x ++ rdX y, T' i = T i) → x.ev T' = x.ev T ∧ y.ev T' = y.ev T := fun h =>
    ⟨X.ev_agree fun i hi => h i (List.mem_append.2 (.inl hi)), X.ev_agree fun i hi => h i (List.mem_append.2 (.inr hi))⟩
  cases e with
  | mv x | eqn _ _ x | not x | neg x | len _ x | cap x | fld x _ _ _ | fa x _ | ext x _ | mkif _ x | nilck x | cvi _ x | cvs x | b2s x => simp only [evE, X.ev_agree (T := T) (T' := T') h]
  | pick c a b =>
    have h3 := two (x := a) (y := b) fun i hi => h i (by simp only [rdE, List.mem_append] at hi ⊢; rcases hi with hi | hi <;> simp [hi])
    have h4 : c.ev T' = c.ev T := X.ev_agree fun i hi => h i (by simp only [rdE, List.mem_append]; first | simp [hi] | simp [hi'])
    simp only [evE, h3.1, h3.2, h4]
  | bin _ x y | eqb _ x y | ia x y _ | iaa x y _ _ | ix x y | ixa x y _ _ _ => simp only [evE, (two h).1, (two h).2]
  | ld loc x n g =>
    obtain rfl := h1 (by simp [ldE])
    simp only [evE, X.ev_agree (T := T) (T' := T') h]
    have : cellsAt loc L' s' (x.ev T) = cellsAt loc L' s (x.ev T) := by
      cases loc with
      | false => obtain rfl := h2 rfl; rfl
      | true => cases x.ev T <;> simp [cellsAt]
    rw [this]
  | mkfn f fi ca =>
    have h3 : ∀ i ∈ fi.flatMap rdX, T' i = T i := fun i hi => h i (by simp only [rdE, List.mem_append]; exact .inl hi)
    have h4 : ∀ i ∈ ca.flatMap rdX, T' i = T i := fun i hi => h i (by simp only [rdE, List.mem_append]; exact .inr hi)
    simp only [evE, map_agree h3, map_agree h4, all_agree h3, all_agree h4]
  | slc st x lo hi mx sz =>
    have h3 : x.ev T' = x.ev T := X.ev_agree fun i hi => h i (by simp only [rdE, List.mem_append]; first | simp [hi] | simp [hi'])
    have h4 : boundO T' lo = boundO T lo := boundO_agree fun i hi => h i (by simp only [rdE, List.mem_append]; first | simp [hi] | simp [hi'])
    have h5 : boundO T' hi = boundO T hi := boundO_agree fun i hi' => h i (by simp only [rdE, List.mem_append]; first | simp [hi] | simp [hi'])
    have h6 : boundO T' mx = boundO T mx := boundO_agree fun i hi' => h i (by simp only [rdE, List.mem_append]; first | simp [hi] | simp [hi'])
    simp only [evE, h3, h4, h5, h6]
  | build z parts =>
    have : (parts.map fun p => (p.1, p.2.1, p.2.2.ev T')) = parts.map fun p => (p.1, p.2.1, p.2.2.ev T) :=
      List.map_congr_left fun p hp => by rw [X.ev_agree (T := T) (T' := T') fun i hi => h i (List.mem_flatMap.2 ⟨p, hp, hi⟩)]
    simp only [evE, this]

theorem need_agree {e : E} (h : ∀ i ∈ rdE e, T' i = T i) : need T' e = need T e := by
  cases e <;> try rfl
  case slc st x lo hi mx sz =>
    cases st
    · simp only [need]
      rw [X.ev_agree (T := T) (T' := T') fun i hi => h i (by simp only [rdE, List.mem_append]; first | simp [hi] | simp [hi'])]
    · rfl
end

/-- slots that an operation reads, writes; may it turn memory that is owned, boxes of the frame. flat: without a guard. -/
def rdF : R → List Nat
  | .p _ e | .pf _ e => rdE e
  | .bsl _ _ _ _ parts => parts.flatMap fun p => rdX p.2
  | .boxl _ _ x | .boxh _ _ x | .mksl _ _ x | .capu _ x | .s2b _ x | .nils _ _ x => rdX x
  | .st _ x v _ => rdX x ++ rdX v
  | .call _ _ args => args.flatMap rdX
  | .callv _ x args => rdX x ++ args.flatMap rdX
  | .app _ _ x y | .apph _ _ x y => rdX x ++ rdX y
  | .bsl0 _ | .any _ | .gd _ _ _ => []
def wrF : R → List Nat
  | .p d _ | .pf d _ | .bsl d _ _ _ _ | .boxl d _ _ | .boxh d _ _ | .mksl d _ _ | .capu d _ | .s2b d _ | .app d _ _ _ | .apph d _ _ _ | .nils _ d _ | .bsl0 d => [d]
  | .call d _ _ | .callv d _ _ | .any d => d.toList
  | .st _ _ _ _ | .gd _ _ _ => []
def effSF : R → Bool
  | .boxh _ _ _ | .call _ _ _ | .callv _ _ _ | .app _ _ _ _ | .apph _ _ _ _ | .mksl _ _ _ => true
  | .st loc _ _ _ => !loc
  | _ => false
def effLF : R → Bool
  | .boxl _ _ _ | .st _ _ _ _ => true
  | _ => false
def flat : R → Bool
  | .gd _ _ _ | .pf _ _ => false
  | _ => true

def rdR : R → List Nat
  | .gd g _ [r] => g :: rdF r
  | r => rdF r
def wrR : R → List Nat
  | .gd _ _ [r] => wrF r
  | r => wrF r
def effS : R → Bool
  | .gd _ _ [r] => effSF r
  | r => effSF r
def effL : R → Bool
  | .gd _ _ [r] => effLF r
  | r => effLF r
def nice : R → Bool
  | .gd _ _ [r] => flat r
  | r => flat r
/-- an operation that only computes, or reads. -/
def asP : R → Option (Nat × E)
  | .p d e => some (d, e)
  | .gd _ _ [.p d e] => some (d, e)
  | _ => none

/-- may a computation (first) come behind another operation. -/
def comm (j i : R) : Bool :=
  match asP j with
  | some (d, e) => nice i && !(rdR i).contains d && !(wrR i).contains d && (rdR j).all (fun k => !(wrR i).contains k) &&
      match ldE e with
      | none => true
      | some true => !effL i
      | some false => !effL i && !effS i
  | none => false

section
variable {P : Program}

theorem upd_same {α : Type} (T : Nat → α) (d : Nat) (v : α) : upd T d v d = v := by simp [upd]
theorem upd_ne {α : Type} (T : Nat → α) {d i : Nat} (v : α) (h : i ≠ d) : upd T d v i = T i := by simp [upd, h]
theorem upd_comm {α : Type} (T : Nat → α) {d d' : Nat} (v v' : α) (h : d ≠ d') : upd (upd T d v) d' v' = upd (upd T d' v') d v := by
  funext i
  simp only [upd]
  split
  · rename_i h1; split
    · rename_i h2; exact absurd (h2.symm.trans h1) h
    · rfl
  · rfl
theorem put_comm' (T : Nat → V) {d : Nat} {d' : Option Nat} (v v' : V) (h : d ∉ d'.toList) : put (upd T d v) d' v' = upd (put T d' v') d v := by
  cases d' with
  | none => rfl
  | some d' => exact upd_comm T v v' (by simpa using h)

mutual
theorem wpR_mono : ∀ (r : R) {K K' : Post}, (∀ T L s, K T L s → K' T L s) → ∀ {T : Nat → V} {L : Nat → Nat × List V} {s : H}, wpR P r K T L s → wpR P r K' T L s
  | .p d e, K, K', hk, T, L, s, h => by
    simp only [wpR] at h ⊢; split at h
    · exact ⟨h.1, hk _ _ _ h.2⟩
    · exact h.elim
  | .pf d e, K, K', hk, T, L, s, h => by
    simp only [wpR] at h ⊢; split at h
    · exact ⟨h.1, fun hf => hk _ _ _ (h.2 hf)⟩
    · exact h.elim
  | .bsl d n sz z parts, K, K', hk, T, L, s, h => by
    simp only [wpR] at h ⊢; split at h
    · exact ⟨h.1, h.2.1, hk _ _ _ h.2.2⟩
    · exact h.elim
  | .boxl d n x, K, K', hk, T, L, s, h => by
    simp only [wpR] at h ⊢; exact ⟨h.1, h.2.1, h.2.2.1, hk _ _ _ h.2.2.2⟩
  | .boxh d n x, K, K', hk, T, L, s, h => by
    simp only [wpR] at h ⊢; exact ⟨h.1, h.2.1, fun b h1 h2 => hk _ _ _ (h.2.2 b h1 h2)⟩
  | .st loc x v n, K, K', hk, T, L, s, h => by
    simp only [wpR] at h ⊢
    refine ⟨h.1, h.2.1, h.2.2.1, ?_⟩
    have h := h.2.2.2
    split at h
    · exact ⟨h.1, h.2.1, hk _ _ _ h.2.2⟩
    · refine ⟨h.1, ?_⟩
      have h := h.2
      split at h
      · exact ⟨h.1, hk _ _ _ h.2⟩
      · exact h.elim
    · exact h.elim
  | .call d f args, K, K', hk, T, L, s, h => by
    simp only [wpR] at h ⊢; exact ⟨h.1, h.2.mono fun r s' h => hk _ _ _ h⟩
  | .callv d x args, K, K', hk, T, L, s, h => by
    simp only [wpR] at h ⊢; split at h
    · exact ⟨h.1, h.2.mono fun r s' h => hk _ _ _ h⟩
    · exact ⟨h.1, h.2.mono fun r s' h => hk _ _ _ h⟩
    · exact h.elim
  | .app d sz x y, K, K', hk, T, L, s, h => by
    simp only [wpR] at h ⊢; split at h
    · refine ⟨h.1, h.2.1, fun e => hk _ _ _ (h.2.2.1 e), fun e => ⟨(h.2.2.2 e).1, ?_⟩⟩
      rcases (h.2.2.2 e).2 with h | h
      · exact .inl ⟨h.1, h.2.1, fun b c h1 h2 => hk _ _ _ (h.2.2 b c h1 h2)⟩
      · obtain ⟨b, c, h1, h2, h3, h4, h5⟩ := h
        exact .inr ⟨b, c, h1, h2, h3, h4, fun b' c' h => hk _ _ _ (h5 b' c' h)⟩
    · exact h.elim
  | .mksl d sz x, K, K', hk, T, L, s, h => by
    simp only [wpR] at h ⊢; split at h
    · exact ⟨h.1, fun b h1 h2 => hk _ _ _ (h.2 b h1 h2)⟩
    · exact h.elim
  | .capu d x, K, K', hk, T, L, s, h => by
    simp only [wpR] at h ⊢; split at h
    · exact fun n h1 h2 => hk _ _ _ (h n h1 h2)
    · exact h.elim
  | .s2b d x, K, K', hk, T, L, s, h => by
    simp only [wpR] at h ⊢; split at h
    · exact ⟨h.1, hk _ _ _ h.2⟩
    · exact h.elim
  | .nils neg d x, K, K', hk, T, L, s, h => by
    simp only [wpR] at h ⊢; split at h
    · exact ⟨fun e => hk _ _ _ (h.1 e), fun e b => hk _ _ _ (h.2 e b)⟩
    · exact h.elim
  | .bsl0 d, K, K', hk, T, L, s, h => by
    simp only [wpR] at h ⊢; exact hk _ _ _ h
  | .apph d sz x y, K, K', hk, T, L, s, h => by
    simp only [wpR] at h ⊢; split at h
    · exact ⟨h.1, h.2.1, h.2.2.1, h.2.2.2.1, fun e => hk _ _ _ (h.2.2.2.2.1 e), fun e => ⟨(h.2.2.2.2.2 e).1, fun b c h1 h2 h3 h4 => hk _ _ _ ((h.2.2.2.2.2 e).2 b c h1 h2 h3 h4)⟩⟩
    · exact h.elim
  | .any d, K, K', hk, T, L, s, h => by
    simp only [wpR] at h ⊢; exact hk _ _ _ h
  | .gd g b rs, K, K', hk, T, L, s, h => by
    simp only [wpR] at h ⊢; split at h
    · split at h
      · rename_i e; rw [if_pos e]; exact wpRs_mono rs hk h
      · rename_i e; rw [if_neg e]; exact wpSkip_mono rs hk h
    · exact wpSkip_mono rs hk h
    · exact h.elim
theorem wpRs_mono : ∀ (rs : List R) {K K' : Post}, (∀ T L s, K T L s → K' T L s) → ∀ {T : Nat → V} {L : Nat → Nat × List V} {s : H}, wpRs P rs K T L s → wpRs P rs K' T L s
  | [], K, K', hk, T, L, s, h => by simp only [wpRs] at h ⊢; exact hk _ _ _ h
  | r :: rs, K, K', hk, T, L, s, h => by
    simp only [wpRs] at h ⊢
    exact wpR_mono r (fun T L s h => wpRs_mono rs hk h) h
theorem wpSkip_mono : ∀ (rs : List R) {K K' : Post}, (∀ T L s, K T L s → K' T L s) → ∀ {T : Nat → V} {L : Nat → Nat × List V} {s : H}, wpSkip P rs K T L s → wpSkip P rs K' T L s
  | [], K, K', hk, T, L, s, h => by simp only [wpSkip] at h ⊢; exact hk _ _ _ h
  | r :: rs, K, K', hk, T, L, s, h => by
    simp only [wpSkip] at h ⊢
    exact wpSkip_mono rs (fun T L s h => hk _ _ _ h) h
end

def Same (wr : List Nat) (eL eS : Bool) (T : Nat → V) (L : Nat → Nat × List V) (s : H) : Post :=
  fun T1 L1 s1 => (∀ k, k ∉ wr → T1 k = T k) ∧ (eL = false → L1 = L) ∧ (eS = false → s1 = s)

theorem put_other (T : Nat → V) {d : Option Nat} (v : V) {k : Nat} (h : k ∉ d.toList) : put T d v k = T k := by
  cases d with
  | none => rfl
  | some d => exact upd_ne _ _ (by simpa using h)

/-- a slot that an operation neither reads nor writes may be filled behind it. -/
theorem flat_frame {r : R} (hf : flat r = true) {K : Post} {T : Nat → V} {L : Nat → Nat × List V} {s : H} {d : Nat} {v : V} (h1 : d ∉ rdF r) (h2 : d ∉ wrF r) (h : wpR P r K (upd T d v) L s) :
    wpR P r (fun T1 L1 s1 => K (upd T1 d v) L1 s1 ∧ Same (wrF r) (effLF r) (effSF r) T L s T1 L1 s1) T L s := by
  have ag : ∀ {l : List Nat}, (d ∉ l) → ∀ i ∈ l, upd T d v i = T i := fun hl i hi => upd_ne _ _ (fun e => hl (e ▸ hi))
  have one : ∀ {d' : Nat} {v' : V}, ∀ k, k ∉ [d'] → upd T d' v' k = T k := fun k hk => upd_ne _ _ (by simpa using hk)
  have agx : ∀ {x : X}, d ∉ rdX x → x.ev (upd T d v) = x.ev T := fun hx => X.ev_agree (ag hx)
  cases r with
  | p d' e =>
    simp only [wpR] at h ⊢
    rw [evE_agree (T := T) (L := L) (s := s) (ag h1) (fun _ => rfl) (fun _ => rfl), need_agree (T := T) (ag h1)] at h
    split at h
    · exact ⟨h.1, by rw [← upd_comm _ _ _ (by simpa [wrF] using h2)]; exact h.2, one, fun _ => rfl, fun _ => rfl⟩
    · exact h.elim
  | pf d' e => cases hf
  | gd _ _ _ => cases hf
  | bsl d' n sz z parts =>
    simp only [wpR] at h ⊢
    have : (parts.map fun p => (p.1 * sz, sz, p.2.ev (upd T d v))) = parts.map fun p => (p.1 * sz, sz, p.2.ev T) :=
      List.map_congr_left fun p hp => by rw [agx fun hi => h1 (List.mem_flatMap.2 ⟨p, hp, hi⟩)]
    rw [this] at h
    split at h
    · exact ⟨h.1, h.2.1, by rw [← upd_comm _ _ _ (by simpa [wrF] using h2)]; exact h.2.2, one, fun _ => rfl, fun _ => rfl⟩
    · exact h.elim
  | boxl d' n x =>
    simp only [wpR] at h ⊢
    rw [agx h1] at h
    exact ⟨h.1, h.2.1, h.2.2.1, by rw [← upd_comm _ _ _ (by simpa [wrF] using h2)]; exact h.2.2.2, one, fun h => (by cases h), fun _ => rfl⟩
  | boxh d' n x =>
    simp only [wpR] at h ⊢
    rw [agx h1] at h
    exact ⟨h.1, h.2.1, fun b q1 q2 => ⟨by rw [← upd_comm _ _ _ (by simpa [wrF] using h2)]; exact h.2.2 b q1 q2, one, fun _ => rfl, fun h => (by cases h)⟩⟩
  | st loc x y n =>
    simp only [rdF, List.mem_append, not_or] at h1
    simp only [wpR] at h ⊢
    rw [agx h1.1, agx h1.2] at h
    refine ⟨h.1, h.2.1, h.2.2.1, ?_⟩
    have h := h.2.2.2
    split at h
    · exact ⟨h.1, h.2.1, h.2.2, fun _ _ => rfl, fun h => (by cases h), fun _ => rfl⟩
    · have hl := h.1
      refine ⟨hl, ?_⟩
      have h := h.2
      split at h
      · exact ⟨h.1, h.2, fun _ _ => rfl, fun h => (by cases h), fun h => (by simp [effSF, hl] at h)⟩
      · exact h.elim
    · exact h.elim
  | call d' f args =>
    simp only [wpR] at h ⊢
    rw [map_agree (ag h1)] at h
    refine ⟨fun x hx => ?_, h.2.mono fun r s' h => ⟨by rw [← put_comm' _ _ _ (by simpa [wrF] using h2)]; exact h, fun k hk => put_other _ _ hk, fun _ => rfl, fun h => (by cases h)⟩⟩
    have := h.1 x hx
    rwa [agx fun hi => h1 (List.mem_flatMap.2 ⟨x, hx, hi⟩)] at this
  | callv d' x args =>
    simp only [rdF, List.mem_append, not_or] at h1
    simp only [wpR] at h ⊢
    rw [agx h1.1] at h
    split at h
    · rw [map_agree (ag h1.2)] at h
      refine ⟨fun x hx => ?_, h.2.mono fun r s' h => ⟨by rw [← put_comm' _ _ _ (by simpa [wrF] using h2)]; exact h, fun k hk => put_other _ _ hk, fun _ => rfl, fun h => (by cases h)⟩⟩
      have := h.1 x hx
      rwa [agx fun hi => h1.2 (List.mem_flatMap.2 ⟨x, hx, hi⟩)] at this
    · rw [map_agree (ag h1.2)] at h
      refine ⟨fun x hx => ?_, h.2.mono fun r s' h => ⟨by rw [← put_comm' _ _ _ (by simpa [wrF] using h2)]; exact h, fun k hk => put_other _ _ hk, fun _ => rfl, fun h => (by cases h)⟩⟩
      have := h.1 x hx
      rwa [agx fun hi => h1.2 (List.mem_flatMap.2 ⟨x, hx, hi⟩)] at this
    · exact h.elim
  | app d' sz x y =>
    simp only [rdF, List.mem_append, not_or] at h1
    have hd : d ≠ d' := by simpa [wrF] using h2
    simp only [wpR] at h ⊢
    rw [agx h1.1, agx h1.2] at h
    split at h
    · refine ⟨h.1, h.2.1, fun e => ⟨by rw [← upd_comm _ _ _ hd]; exact h.2.2.1 e, one, fun _ => rfl, fun h => (by cases h)⟩, fun e => ⟨(h.2.2.2 e).1, ?_⟩⟩
      rcases (h.2.2.2 e).2 with h | h
      · exact .inl ⟨h.1, h.2.1, fun b c q1 q2 => ⟨by rw [← upd_comm _ _ _ hd]; exact h.2.2 b c q1 q2, one, fun _ => rfl, fun h => (by cases h)⟩⟩
      · obtain ⟨b, c, q1, q2, q3, q4, h5⟩ := h
        exact .inr ⟨b, c, q1, q2, q3, q4, fun b' c' h => ⟨by rw [← upd_comm _ _ _ hd]; exact h5 b' c' h, one, fun _ => rfl, fun h => (by cases h)⟩⟩
    · exact h.elim
  | mksl d' sz x =>
    have hd : d ≠ d' := by simpa [wrF] using h2
    simp only [wpR] at h ⊢
    rw [agx h1] at h
    split at h
    · exact ⟨h.1, fun b q1 q2 => ⟨by rw [← upd_comm _ _ _ hd]; exact h.2 b q1 q2, one, fun _ => rfl, fun h => (by cases h)⟩⟩
    · exact h.elim
  | capu d' x =>
    have hd : d ≠ d' := by simpa [wrF] using h2
    simp only [wpR] at h ⊢
    rw [agx h1] at h
    split at h
    · exact fun n q1 q2 => ⟨by rw [← upd_comm _ _ _ hd]; exact h n q1 q2, one, fun _ => rfl, fun _ => rfl⟩
    · exact h.elim
  | s2b d' x =>
    have hd : d ≠ d' := by simpa [wrF] using h2
    simp only [wpR] at h ⊢
    rw [agx h1] at h
    split at h
    · exact ⟨h.1, by rw [← upd_comm _ _ _ hd]; exact h.2, one, fun _ => rfl, fun _ => rfl⟩
    · exact h.elim
  | nils neg d' x =>
    have hd : d ≠ d' := by simpa [wrF] using h2
    simp only [wpR] at h ⊢
    rw [agx h1] at h
    split at h
    · exact ⟨fun e => ⟨by rw [← upd_comm _ _ _ hd]; exact h.1 e, one, fun _ => rfl, fun _ => rfl⟩, fun e b => ⟨by rw [← upd_comm _ _ _ hd]; exact h.2 e b, one, fun _ => rfl, fun _ => rfl⟩⟩
    · exact h.elim
  | bsl0 d' =>
    have hd : d ≠ d' := by simpa [wrF] using h2
    simp only [wpR] at h ⊢
    exact ⟨by rw [← upd_comm _ _ _ hd]; exact h, one, fun _ => rfl, fun _ => rfl⟩
  | apph d' sz x y =>
    simp only [rdF, List.mem_append, not_or] at h1
    have hd : d ≠ d' := by simpa [wrF] using h2
    simp only [wpR] at h ⊢
    rw [agx h1.1, agx h1.2] at h
    split at h
    · exact ⟨h.1, h.2.1, h.2.2.1, h.2.2.2.1, fun e => ⟨by rw [← upd_comm _ _ _ hd]; exact h.2.2.2.2.1 e, one, fun _ => rfl, fun h => (by cases h)⟩,
        fun e => ⟨(h.2.2.2.2.2 e).1, fun b c q1 q2 q3 q4 => ⟨by rw [← upd_comm _ _ _ hd]; exact (h.2.2.2.2.2 e).2 b c q1 q2 q3 q4, one, fun _ => rfl, fun h => (by cases h)⟩⟩⟩
    · exact h.elim
  | any d' =>
    simp only [wpR] at h ⊢
    exact ⟨by rw [← put_comm' _ _ _ (by simpa [wrF] using h2)]; exact h, fun k hk => put_other _ _ hk, fun _ => rfl, fun _ => rfl⟩

theorem skipR_flat {r : R} (hf : flat r = true) (T : Nat → V) : (∀ {d : Nat} {v : V}, d ∉ wrF r → skipR P r (upd T d v) = upd (skipR P r T) d v) ∧ ∀ k, k ∉ wrF r → skipR P r T k = T k := by
  cases r with
  | gd _ _ _ => cases hf
  | pf _ _ => cases hf
  | st _ _ _ _ => exact ⟨fun _ => rfl, fun _ _ => rfl⟩
  | call d _ _ | callv d _ _ | any d => exact ⟨fun h => put_comm' _ _ _ (by simpa [wrF] using h), fun k hk => put_other _ _ hk⟩
  | _ => exact ⟨fun h => upd_comm _ _ _ (by simpa [wrF] using h), fun k hk => upd_ne _ _ (by simpa [wrF] using hk)⟩

theorem frame {r : R} (hn : nice r = true) {K : Post} {T : Nat → V} {L : Nat → Nat × List V} {s : H} {d : Nat} {v : V} (h1 : d ∉ rdR r) (h2 : d ∉ wrR r) (h : wpR P r K (upd T d v) L s) :
    wpR P r (fun T1 L1 s1 => K (upd T1 d v) L1 s1 ∧ Same (wrR r) (effL r) (effS r) T L s T1 L1 s1) T L s := by
  unfold nice at hn
  split at hn
  · rename_i g b r
    simp only [rdR, List.mem_cons, not_or] at h1
    simp only [wrR] at h2
    simp only [wpR, wpRs, wpSkip] at h ⊢
    rw [upd_ne _ _ (fun e => h1.1 e.symm)] at h
    split at h
    · split at h
      · rename_i e; rw [if_pos e]; exact flat_frame hn h1.2 h2 h
      · rename_i e; rw [if_neg e]
        rw [(skipR_flat hn T).1 h2] at h
        exact ⟨h, (skipR_flat hn T).2, fun _ => rfl, fun _ => rfl⟩
    · rw [(skipR_flat hn T).1 h2] at h
      exact ⟨h, (skipR_flat hn T).2, fun _ => rfl, fun _ => rfl⟩
    · exact h.elim
  · rename_i hg
    have e1 : rdR r = rdF r := by unfold rdR; split <;> first | rfl | (rename_i g b r'; exact absurd rfl (hg g b r'))
    have e2 : wrR r = wrF r := by unfold wrR; split <;> first | rfl | (rename_i g b r'; exact absurd rfl (hg g b r'))
    have e3 : effL r = effLF r := by unfold effL; split <;> first | rfl | (rename_i g b r'; exact absurd rfl (hg g b r'))
    have e4 : effS r = effSF r := by unfold effS; split <;> first | rfl | (rename_i g b r'; exact absurd rfl (hg g b r'))
    rw [e1] at h1; rw [e2] at h2; rw [e2, e3, e4]
    exact flat_frame hn h1 h2 h

/-- what a computation does, and when it does it likewise. -/
theorem pure_step {r : R} {d : Nat} {e : E} (hp : asP r = some (d, e)) {K : Post} {T : Nat → V} {L : Nat → Nat × List V} {s : H} (h : wpR P r K T L s) :
    ∃ v, K (upd T d v) L s ∧ ∀ (K' : Post) (T' : Nat → V) (L' : Nat → Nat × List V) (s' : H), (∀ i ∈ rdR r, T' i = T i) → (ldE e ≠ none → L' = L) → (ldE e = some false → s' = s) →
      K' (upd T' d v) L' s' → wpR P r K' T' L' s' := by
  unfold asP at hp
  split at hp
  · cases hp
    simp only [wpR] at h
    split at h
    · rename_i v hv
      refine ⟨v, h.2, fun K' T' L' s' h1 h2 h3 hk => ?_⟩
      simp only [wpR]
      rw [evE_agree (T := T) (L := L) (s := s) h1 h2 h3, hv, need_agree (T := T) h1]
      exact ⟨h.1, hk⟩
    · exact h.elim
  · cases hp
    rename_i g b
    simp only [wpR, wpRs, wpSkip] at h
    split at h
    · rename_i t ht
      by_cases hb : t = b
      · rw [if_pos hb] at h
        split at h
        · rename_i v hv
          refine ⟨v, h.2, fun K' T' L' s' h1 h2 h3 hk => ?_⟩
          have hg : T' g = .bool t := by rw [h1 g (by simp [rdR]), ht]
          have h1' : ∀ i ∈ rdE e, T' i = T i := fun i hi => h1 i (by simp [rdR, rdF, hi])
          simp only [wpR, wpRs, wpSkip, hg]
          rw [evE_agree (T := T) (L := L) (s := s) h1' h2 h3, hv, need_agree (T := T) h1']
          rw [if_pos hb]
          exact ⟨h.1, hk⟩
        · exact h.elim
      · rw [if_neg hb] at h
        refine ⟨.c undef, h, fun K' T' L' s' h1 h2 h3 hk => ?_⟩
        have hg : T' g = .bool t := by rw [h1 g (by simp [rdR]), ht]
        simp only [wpR, wpRs, wpSkip, hg]
        rw [if_neg hb]
        exact hk
    · rename_i vs ht
      refine ⟨.c undef, h, fun K' T' L' s' h1 h2 h3 hk => ?_⟩
      have hg : T' g = .c (.tuple vs) := by rw [h1 g (by simp [rdR]), ht]
      simp only [wpR, wpSkip, hg]
      exact hk
    · exact h.elim
  · cases hp

/-- a computation may come behind. -/
theorem swap {j i : R} (hc : comm j i = true) {K : Post} {T : Nat → V} {L : Nat → Nat × List V} {s : H} (h : wpR P j (wpR P i K) T L s) : wpR P i (wpR P j K) T L s := by
  unfold comm at hc
  split at hc
  · rename_i d e hp
    simp only [Bool.and_eq_true, Bool.not_eq_true', List.contains_eq_mem, decide_eq_false_iff_not, List.all_eq_true] at hc
    obtain ⟨⟨⟨⟨hn, h1⟩, h2⟩, h3⟩, h4⟩ := hc
    obtain ⟨v, hv, hb⟩ := pure_step hp h
    refine wpR_mono i ?_ (frame hn h1 h2 hv)
    rintro T1 L1 s1 ⟨hk, a1, a2, a3⟩
    refine hb _ _ _ _ (fun k hk' => a1 k (h3 k hk')) (fun hl => ?_) (fun hl => ?_) hk
    · refine a2 ?_
      cases hld : ldE e with
      | none => exact absurd hld hl
      | some b => rw [hld] at h4; cases b <;> simp at h4 <;> simp [h4]
    · rw [hl] at h4
      simp at h4
      exact a3 h4.2
  · cases hc

/-- an operation that may come first comes first. -/
theorem first {r : Nat → R} {K : Post} {i : Nat} {c2 : List Nat} : ∀ (c1 : List Nat) {T : Nat → V} {L : Nat → Nat × List V} {s : H}, (∀ j ∈ c1, comm (r j) (r i) = true) →
    wpRs P ((c1 ++ i :: c2).map r) K T L s → wpR P (r i) (wpRs P ((c1 ++ c2).map r) K) T L s
  | [], T, L, s, _, h => by simpa only [List.nil_append, List.map_cons, wpRs] using h
  | j :: c1, T, L, s, hc, h => by
    simp only [List.cons_append, List.map_cons, wpRs] at h ⊢
    exact swap (hc j (by simp)) (wpR_mono (r j) (fun T L s h => first c1 (fun k hk => hc k (by simp [hk])) h) h)

end

end Go.VL
