/-
  a part of the proof: the texts VlE, joined: helper laws; none of them is the statement.
-/
import Derived.Test.YthjjlmkooofdiaaGreatDoorVl01
import Derived.Laws.Entries
import Derived.Laws.Strings
import Derived.Laws.Tables
import Derived.Great.BuildSlice

/-
  VlE: the operations that only compute: how they are found in the machine's code, and that they do what VlC says.
-/
namespace Go.VL
open Go

def isAggD : TypeDesc → Bool
  | .struct _ => true
  | .array _ _ => true
  | _ => false

def aggOf (P : Program) (t : TypeId) : Option Bool := (P.underlying t).map isAggD
def sizeOfT (P : Program) (t : TypeId) : Option Nat := (P.info? t).map (·.size)

theorem run_und {P : Program} {t : TypeId} {d : TypeDesc} (h : P.underlying t = some d) (w : World) : (underlying t).run P w = .ok d w := run_underlying h w
theorem run_info {P : Program} {t : TypeId} {i : TypeInfo} (h : P.info? t = some i) (w : World) : (typeInfo t).run P w = .ok i w := by simp [typeInfo, h]
theorem run_size {P : Program} {t : TypeId} {n : Nat} (h : sizeOfT P t = some n) (w : World) : (sizeOf t).run P w = .ok n w := by
  simp only [sizeOfT, Option.map_eq_some_iff] at h
  obtain ⟨i, hi, rfl⟩ := h
  simp [sizeOf, run_info hi]
theorem run_agg {P : Program} {t : TypeId} {b : Bool} (h : aggOf P t = some b) (w : World) : (isAgg t).run P w = .ok b w := by
  simp only [aggOf, Option.map_eq_some_iff] at h
  obtain ⟨d, hd, rfl⟩ := h
  simp only [isAgg, Sem.run_bind, run_und hd, Result.andThen_ok]
  cases d <;> rfl

theorem mkStr_size (l : List UInt8) : ByteArray.size ⟨l.toArray⟩ = l.length := by simp [ByteArray.size]
theorem mkStr_toList (l : List UInt8) : ByteArray.toList ⟨l.toArray⟩ = l := by rw [ByteArray.toList_eq]
theorem mkStr_append (a b : List UInt8) : (⟨a.toArray⟩ ++ ⟨b.toArray⟩ : ByteArray) = ⟨(a ++ b).toArray⟩ := by
  apply ByteArray.ext
  simp [ByteArray.data_append]
theorem mkStr_extract (a : List UInt8) (l h : Nat) : ByteArray.extract ⟨a.toArray⟩ l h = ⟨((a.take h).drop l).toArray⟩ := by
  apply ByteArray.ext
  simp only [ByteArray.data_extract]
  apply Array.ext'
  simp [List.drop_take]

/-- one step: an operation that computes comes to a value. -/
def Gives (P : Program) (w : World) (s : Sem Value) (I : Nat → Nat → Prop) (lb : Nat → Nat × Nat) (v : V) : Prop := ∃ cv, s.run P w = .ok cv w ∧ RF I w lb v cv

section
variable {P : Program} {w : World} {I : Nat → Nat → Prop} {lb : Nat → Nat × Nat}

theorem Gives.mk {s : Sem Value} {v : V} (cv : Value) (h : s.run P w = .ok cv w) (hv : RV I w v cv) : Gives P w s I lb v := ⟨cv, h, RF.of_rv hv⟩

theorem gives_int {op : BinOp} {t : TypeId} {x y : Operand} {k k' : IntKind} {a b : Int} {v : V} (h : binV op (.int k a) (.int k' b) = some v) :
    Gives P w (do eqGuard op t x y (.int k a) (.int k' b); binOp op t (.int k a) (.int k' b)) I lb v := by
  simp only [binV] at h
  split at h
  · rename_i hk
    subst hk
    simp only [eqGuard_at_int]
    cases op <;> simp only [intV] at h
    case add => cases h; exact .mk (.int k (k.wrap (a + b))) (by simp [binOp_add, Op.intArith]) (by simp only [RV])
    case sub => cases h; exact .mk (.int k (k.wrap (a - b))) (by simp [binOp_sub, Op.intArith]) (by simp only [RV])
    case mul => cases h; exact .mk (.int k (k.wrap (a * b))) (by simp [binOp_mul, Op.intArith]) (by simp only [RV])
    case quo =>
      split at h
      · cases h
      · rename_i hb
        cases h; exact .mk (.int k (k.wrap (a.tdiv b))) (by simp [binOp_quo, Op.intDiv, hb]) (by simp only [RV])
    case rem =>
      split at h
      · cases h
      · rename_i hb
        cases h; exact .mk (.int k (a.tmod b)) (by simp [binOp_rem, Op.intDiv, hb]) (by simp only [RV])
    case eql => cases h; exact .mk (.bool (decide (a = b))) (by simp [binOp_eql]; rw [Bool.eq_iff_iff]; simp) (by simp only [RV])
    case neq => cases h; exact .mk (.bool (decide (a ≠ b))) (by simp [binOp_neq]; rw [Bool.eq_iff_iff]; simp) (by simp only [RV])
    case lss => cases h; exact .mk (.bool (decide (a < b))) (by simp [binOp_lss]) (by simp only [RV])
    case leq => cases h; exact .mk (.bool (decide (a ≤ b))) (by simp [binOp_leq]) (by simp only [RV])
    case gtr => cases h; exact .mk (.bool (decide (b < a))) (by simp [binOp_gtr]) (by simp only [RV])
    case geq => cases h; exact .mk (.bool (decide (b ≤ a))) (by simp [binOp_geq]) (by simp only [RV])
    all_goals cases h
  · cases h
theorem gives_str {op : BinOp} {t : TypeId} {x y : Operand} {a b : List UInt8} {v : V} (h : binV op (.str a) (.str b) = some v) :
    Gives P w (do eqGuard op t x y (mkStr a) (mkStr b); binOp op t (mkStr a) (mkStr b)) I lb v := by
  have step : ∀ s : Sem Value, binOp op t (mkStr a) (mkStr b) = s → (do eqGuard op t x y (mkStr a) (mkStr b); binOp op t (mkStr a) (mkStr b)) = s := by
    intro s hs
    simp only [mkStr, eqGuard_at_string] at hs ⊢
    exact hs
  have hb : ∀ op', binOp op' t (mkStr a) (mkStr b) = Op.stringOp op' ⟨a.toArray⟩ ⟨b.toArray⟩ := by intro op'; cases op' <;> rfl
  rw [step _ (hb op)]
  simp only [binV] at h
  cases op <;> simp only [strV] at h
  case add =>
    split at h
    · rename_i hl
      cases h
      refine .mk (mkStr (a ++ b)) ?_ (by simp only [RV])
      have : ¬ ((((ByteArray.mk a.toArray).size + (ByteArray.mk b.toArray).size : Nat) : Int) > 9223372036854775807) := by
        simp only [mkStr_size]; unfold top at hl; omega
      simp only [Op.stringOp, IntKind.max_i64, if_neg this, mkStr_append, mkStr]; rfl
    · cases h
  case eql => cases h; exact .mk (.bool (decide (a = b))) (by simp only [Op.stringOp, mkStr_toList]; simp; rw [Bool.eq_iff_iff]; simp) (by simp only [RV])
  case neq => cases h; exact .mk (.bool (decide (a ≠ b))) (by simp only [Op.stringOp, mkStr_toList]; simp; rw [Bool.eq_iff_iff]; simp) (by simp only [RV])
  case lss => cases h; exact .mk (.bool (Op.bytesLess a b)) (by simp only [Op.stringOp, mkStr_toList]; rfl) (by simp only [RV])
  case leq => cases h; exact .mk (.bool (Op.bytesLess a b || decide (a = b))) (by simp only [Op.stringOp, mkStr_toList]; simp; congr 1; rw [Bool.eq_iff_iff]; simp) (by simp only [RV])
  case gtr => cases h; exact .mk (.bool (!(Op.bytesLess a b || decide (a = b)))) (by simp only [Op.stringOp, mkStr_toList]; simp; congr 1; rw [Bool.eq_iff_iff]; simp) (by simp only [RV])
  case geq => cases h; exact .mk (.bool (!Op.bytesLess a b)) (by simp only [Op.stringOp, mkStr_toList]; rfl) (by simp only [RV])
  all_goals cases h

/-- cells that can be read. -/
def Mem (I : Nat → Nat → Prop) (w : World) (b base : Nat) (cs : List V) : Prop := ∀ (i : Nat) (v : V), cs[i]? = some v → ∃ c, w.cell? ⟨b, base + i, none⟩ = some c ∧ RV I w v c

theorem add_none (b o n : Nat) : Addr.add ⟨b, o, none⟩ n = ⟨b, o + n, none⟩ := Addr.add_lit b o n

/-- the machine's cells under a list of values. -/
theorem Mem.read {b base : Nat} {cs : List V} (h : Mem I w b base cs) : ∃ vs : List Value, RVs I w cs vs ∧ ∀ (j : Nat) (v : Value), vs[j]? = some v → w.cell? ⟨b, base + j, none⟩ = some v := by
  induction cs generalizing base with
  | nil => exact ⟨[], by simp [RVs], by simp⟩
  | cons x xs ih =>
    obtain ⟨c, hc, hv⟩ := h 0 x rfl
    obtain ⟨vs, h1, h2⟩ := ih (base := base + 1) (fun i v hi => by
      have := h (i + 1) v (by simpa using hi)
      rwa [show base + (i + 1) = base + 1 + i by omega] at this)
    refine ⟨c :: vs, by simp only [RVs]; exact ⟨hv, h1⟩, fun j v hj => ?_⟩
    cases j with
    | zero => simp at hj; subst hj; simpa using hc
    | succ j => simp at hj; have := h2 j v hj; rwa [show base + 1 + j = base + (j + 1) by omega] at this

theorem Mem.sub {b base : Nat} {cs : List V} (h : Mem I w b base cs) (o n : Nat) : Mem I w b (base + o) ((cs.drop o).take n) := fun i v hi => by
  rw [List.getElem?_take] at hi
  split at hi
  · rw [List.getElem?_drop] at hi
    have := h (o + i) v hi
    rwa [← Nat.add_assoc] at this
  · simp at hi

theorem gives_load {t : TypeId} {agg : Bool} {n b base o : Nat} {cs : List V} {v : V} (ha : aggOf P t = some agg) (hn : sizeOfT P t = some n)
    (hm : Mem I w b base cs) (hv : takeV agg n cs o = some v) : Gives P w (Instr.loadAt t (.pointer (some ⟨b, base + o, none⟩))) I lb v := by
  unfold takeV at hv
  have hs : ∀ x : Addr, Instr.sureAddr (.pointer (some x)) = pure x := fun _ => rfl
  simp only [Gives, Instr.loadAt, hs, loadVar, Sem.run_bind, Sem.run_pure, Result.andThen_ok, run_agg ha]
  cases agg with
  | true =>
    simp only [if_true] at hv ⊢
    split at hv
    · rename_i hl
      cases hv
      obtain ⟨vs, h1, h2⟩ := (hm.sub o n).read
      have hlen := h1.length
      have hlen' : vs.length = n := by rw [← hlen]; simp; omega
      refine ⟨.agg vs.toArray, ?_, RF.of_rv ?_⟩
      · simp only [Sem.run_bind, run_size hn, Result.andThen_ok]
        have := run_loadCells_list (P := P) (w := w) ⟨b, base + o, none⟩ vs (fun j v hj => by rw [add_none]; exact h2 j v hj)
        rw [hlen'] at this
        rw [this]; rfl
      · simp only [RV]; exact ⟨_, rfl, by simpa using h1⟩
    · cases hv
  | false =>
    simp only [Bool.false_eq_true, if_false] at hv ⊢
    obtain ⟨c, hc, hr⟩ := hm o v hv
    exact ⟨c, by simp [hc], RF.of_rv hr⟩

/-- where a pointer of the layer leads. -/
theorem Rel.mem {N : Fr} {s : H} {T : Nat → V} {L : Nat → Nat × List V} {a : Act} (hr : Rel N I s T L lb a w) {loc : Bool} {p : V} {cs : List V} {o : Nat} {cv : Value}
    (hp : RF I w lb p cv) (hc : cellsAt loc L s p = some (cs, o)) : ∃ b base, cv = .pointer (some ⟨b, base + o, none⟩) ∧ Mem I w b base cs := by
  cases p <;> simp only [cellsAt] at hc <;> try (cases hc; done)
  case ptr b o' =>
    split at hc
    · cases hc
    · simp only [Option.map_eq_some_iff] at hc
      obtain ⟨cs', hcs, he⟩ := hc
      cases he
      simp only [RF, RV] at hp
      obtain ⟨⟨vs, t, hb, hlen, hv⟩, _⟩ := hr.h.hc b cs hcs
      refine ⟨b, 0, by rw [Nat.zero_add]; exact hp, fun i v hi => ?_⟩
      obtain ⟨c, hc, hrv⟩ := hv.get hi
      rw [List.getElem?_take] at hc
      split at hc
      · exact ⟨c, by simp only [World.cell?, hb, Nat.zero_add]; simpa using hc, hrv⟩
      · simp at hc
  case lp k u o' =>
    split at hc
    case isFalse => cases hc
    rename_i hu
    cases hc
    simp only [RF] at hp
    obtain ⟨b, hp, hbk⟩ := hp
    obtain rfl := hbk.1 (by rw [hr.u, hu])
    refine ⟨(lb k).2, 0, by rw [Nat.zero_add]; exact hp, fun i v hi => ?_⟩
    have hne : (L k).2 ≠ [] := by intro h; simp [h] at hi
    obtain ⟨⟨vs, t, hb, hv⟩, _⟩ := hr.l k hne
    obtain ⟨c, hc, hrv⟩ := hv.get hi
    exact ⟨c, by simp only [World.cell?, hb, Nat.zero_add]; simpa using hc, hrv⟩
  case ip cs' o' =>
    cases hc
    simp only [RF, RV] at hp
    obtain ⟨b, o0, he, hm⟩ := hp
    exact ⟨b, o0, he, fun i v hi => (hm.get hi).2⟩


theorem RVmm.flat {I : Nat → Nat → Prop} : ∀ {k b o : Nat} {xs : List (List V)}, RVmm I w k b o xs → RVm I w b o xs.flatten
  | _, _, _, [], _ => by simp [RVm]
  | k, b, o, x :: xs, h => by
    simp only [RVmm] at h
    have ih := RVmm.flat h.2
    refine RVm.of_get fun i v hv => ?_
    simp only [List.flatten_cons] at hv
    rw [List.getElem?_append] at hv
    split at hv
    · exact h.1.2.get hv
    · have := ih.get hv
      rwa [show o + k + (i - x.length) = o + i by have := h.1.1; omega] at this

theorem RVmm.of_flat {I : Nat → Nat → Prop} : ∀ {k b o : Nat} {xs : List (List V)}, (∀ x ∈ xs, x.length = k) → RVm I w b o xs.flatten → RVmm I w k b o xs
  | _, _, _, [], _, _ => by simp [RVmm]
  | k, b, o, x :: xs, hl, h => by
    simp only [List.flatten_cons] at h
    have hx := hl x (by simp)
    simp only [RVmm]
    refine ⟨⟨hx, RVm.of_get fun i v hv => h.get (by rw [List.getElem?_append_left (List.getElem?_eq_some_iff.1 hv).1]; exact hv)⟩, RVmm.of_flat (fun y hy => hl y (by simp [hy])) (RVm.of_get fun i v hv => ?_)⟩
    have := h.get (i := k + i) (by rw [List.getElem?_append_right (by omega)]; rw [show k + i - x.length = i by omega]; exact hv)
    rwa [← Nat.add_assoc] at this

theorem flatten_len {α : Type} {k : Nat} : ∀ {xs : List (List α)}, (∀ x ∈ xs, x.length = k) → xs.flatten.length = xs.length * k
  | [], _ => by simp
  | x :: xs, h => by
    simp only [List.flatten_cons, List.length_append, List.length_cons]
    rw [flatten_len (fun y hy => h y (by simp [hy])), h x (by simp), Nat.add_mul]; omega

/-- the machine's cells of a slice of the layer. -/
theorem sl_cells {I : Nat → Nat → Prop} {xs sp : List (List V)} {ex : Bool} {tk : Option (Nat × Nat)} {cv : Value} {sz : Nat} (h : RV I w (.sl xs sp ex tk) cv) (hsz : ∀ x ∈ xs, x.length = sz) :
    ∃ ad cap vs, cv = .slice ad xs.length cap ∧ RVs I w xs.flatten vs ∧ vs.length = xs.length * sz ∧ (xs ≠ [] → ∃ b o, ad = some ⟨b, o, none⟩) ∧
      (∀ b : Addr, ad = some b → ∀ (j : Nat) (v : Value), vs[j]? = some v → w.cell? (b.add j) = some v) ∧ xs.length ≤ cap ∧ cap < top ∧ (ex = true → cap = xs.length + sp.length) ∧ (∀ b c, tk = some (b, c) → ad = some ⟨b, 0, none⟩ ∧ cap = c) := by
  simp only [RV] at h
  obtain ⟨ad, cap, rfl, h1, h2, h3, h4, h5, h6⟩ := h
  by_cases hx : xs = []
  · subst hx
    exact ⟨ad, cap, [], rfl, by simp [RVs], by simp, fun h => absurd rfl h, by simp, by omega, h3, h2, h4⟩
  · have hpos : 0 < xs.length := List.length_pos_iff.2 hx
    obtain ⟨b, o, k, rfl, m1, m2⟩ := h6 (by omega)
    obtain ⟨vs, v1, v2⟩ := Mem.read (I := I) (w := w) (b := b) (base := o) (cs := xs.flatten) (fun i v hi => (m1.flat.get hi).2)
    refine ⟨some ⟨b, o, none⟩, cap, vs, rfl, v1, by rw [← v1.length, flatten_len hsz], fun _ => ⟨b, o, rfl⟩, ?_, by omega, h3, h2, h4⟩
    rintro _ ⟨⟩ j v hj
    rw [add_none]; exact v2 j v hj

theorem gives_fa {t : TypeId} {fs : Array Field} {f n : Nat} {fd : Field} {x : V} {cv : Value} {v : V} (hu : P.underlying t = some (.struct fs)) (hf : fs[f]? = some fd)
    (hn : sizeOfT P fd.type = some n) (h0 : n ≠ 0) (hx : RF I w lb x cv)
    (hv : faV fd.offset x = some v) :
    Gives P w (Instr.fieldAt t cv f) I lb v := by
  have run : ∀ b o, (Instr.fieldAt t (.pointer (some ⟨b, o, none⟩)) f).run P w = .ok (.pointer (some ⟨b, o + fd.offset, none⟩)) w := by
    intro b o
    have hs : ∀ x : Addr, Instr.sureAddr (.pointer (some x)) = pure x := fun _ => rfl
    simp only [Instr.fieldAt, Sem.run_bind, run_und hu, Result.andThen_ok, hf, hs, Sem.run_pure, fieldPlace, run_size hn, if_neg h0, add_none]
  cases x <;> simp only [faV] at hv <;> try (cases hv; done)
  case ptr b o =>
    cases hv; simp only [RF, RV] at hx; subst hx
    exact ⟨_, run b o, by simp only [RF, RV]⟩
  case lp k u o =>
    cases hv; simp only [RF] at hx
    obtain ⟨b, rfl, hb⟩ := hx
    exact ⟨_, run _ o, by simp only [RF]; exact ⟨b, rfl, hb⟩⟩
  case ip cs o =>
    cases hv; simp only [RF, RV] at hx
    obtain ⟨b, o0, rfl, hm⟩ := hx
    refine ⟨_, run b _, ?_⟩
    simp only [RF, RV]
    exact ⟨b, o0, by rw [Nat.add_assoc], hm⟩

theorem natOf_spec {v : V} {n : Nat} (h : natOf v = some n) : ∃ k m, v = .int k m ∧ 0 ≤ m ∧ m.toNat = n := by
  unfold natOf at h
  split at h
  · rename_i k m
    split at h
    · cases h; exact ⟨k, m, rfl, by assumption, rfl⟩
    · cases h
  · cases h

theorem gives_ia {t e : TypeId} {sz n : Nat} {x i : V} {cx ci : Value} {v : V} (hu : P.underlying t = some (.slice e)) (hn : sizeOfT P e = some sz)
    (hx : RF I w lb x cx) (hi : RF I w lb i ci) (hin : natOf i = some n)
    (hv : iaV sz x (some n) = some v) :
    Gives P w (Instr.indexAt t cx ci) I lb v := by
  obtain ⟨k, m, rfl, hm, rfl⟩ := natOf_spec hin
  simp only [RF, RV] at hi
  subst hi
  have run : ∀ b o len cap, m.toNat < len → (Instr.indexAt t (.slice (some ⟨b, o, none⟩) len cap) (.int k m)).run P w = .ok (.pointer (some ⟨b, o + m.toNat * sz, none⟩)) w := by
    intro b o len cap hl
    simp only [Instr.indexAt, asIntOf, Sem.run_bind, Sem.run_pure, Result.andThen_ok, run_und hu]
    rw [if_pos ⟨hm, by omega⟩]
    simp only [Sem.run_bind, run_size hn, Result.andThen_ok, Sem.run_pure, add_none]
  cases x <;> simp only [iaV] at hv <;> try (cases hv; done)
  case hs b o len cap =>
    split at hv
    · cases hv; simp only [RF, RV] at hx; subst hx
      exact ⟨_, run b o len cap (by assumption), by simp only [RF, RV]⟩
    · cases hv
  case sl xs sp ex tk =>
    split at hv
    · rename_i el hel
      split at hv
      · rename_i hsz
        cases hv
        simp only [RF, RV] at hx
        obtain ⟨a, cap, rfl, h1, h2, h3, h4, h5, h6⟩ := hx
        have hlt : m.toNat < xs.length := (List.getElem?_eq_some_iff.1 hel).1
        obtain ⟨b, o, k', rfl, h7, h8⟩ := h6 (by omega)
        obtain ⟨hk, hmem⟩ := h7.get hel
        have hk' : k' = sz := by omega
        subst hk'
        refine ⟨_, run b o _ _ hlt, ?_⟩
        simp only [RF, RV]
        exact ⟨b, o + m.toNat * k', rfl, hmem⟩
      · cases hv
    · cases hv

theorem gives_iaa {t e : TypeId} {sz n len : Nat} {x i : V} {cx ci : Value} {v : V} (hu : P.underlying t = some (.array len e)) (hn : sizeOfT P e = some sz)
    (hx : RF I w lb x cx) (hi : RF I w lb i ci) (hin : natOf i = some n)
    (hv : iaaV len sz x (some n) = some v) :
    Gives P w (Instr.indexAt t cx ci) I lb v := by
  obtain ⟨k, m, rfl, hm, rfl⟩ := natOf_spec hin
  simp only [RF, RV] at hi
  subst hi
  have hs : ∀ x : Addr, Instr.sureAddr (.pointer (some x)) = pure x := fun _ => rfl
  have run : ∀ b o, m.toNat < len → (Instr.indexAt t (.pointer (some ⟨b, o, none⟩)) (.int k m)).run P w = .ok (.pointer (some ⟨b, o + m.toNat * sz, none⟩)) w := by
    intro b o hl
    simp only [Instr.indexAt, asIntOf, Sem.run_bind, Sem.run_pure, Result.andThen_ok, run_und hu, hs]
    rw [if_pos ⟨hm, by omega⟩]
    simp only [Sem.run_bind, run_size hn, Result.andThen_ok, Sem.run_pure, add_none]
  cases x <;> simp only [iaaV] at hv <;> try (cases hv; done)
  case ptr b o =>
    split at hv
    · cases hv; simp only [RF, RV] at hx; subst hx
      exact ⟨_, run b o (by assumption), by simp only [RF, RV]⟩
    · cases hv
  case lp k u o =>
    split at hv
    · cases hv; simp only [RF] at hx
      obtain ⟨b, rfl, hb⟩ := hx
      exact ⟨_, run _ o (by assumption), by simp only [RF]; exact ⟨b, rfl, hb⟩⟩
    · cases hv
  case ip cs o =>
    split at hv
    · cases hv; simp only [RF, RV] at hx
      obtain ⟨b, o0, rfl, hmem⟩ := hx
      refine ⟨_, run b _ (by assumption), ?_⟩
      simp only [RF, RV]
      exact ⟨b, o0, by rw [Nat.add_assoc], hmem⟩
    · cases hv

theorem gives_ix {t : TypeId} {n : Nat} {l : List UInt8} {i : V} {ci : Value} {v : V} (hu : P.underlying t = some .string)
    (hi : RF I w lb i ci) (hin : natOf i = some n) (hv : ixV (.str l) (some n) = some v) :
    Gives P w (Instr.index t (mkStr l) ci) I lb v := by
  obtain ⟨k, m, rfl, hm, rfl⟩ := natOf_spec hin
  simp only [RF, RV] at hi
  subst hi
  simp only [ixV, Option.map_eq_some_iff] at hv
  obtain ⟨c, hc, rfl⟩ := hv
  have hlt : m.toNat < l.length := (List.getElem?_eq_some_iff.1 hc).1
  refine .mk (.int .u8 c.toNat) ?_ (by simp only [RV])
  rw [mkStr, run_index_string w t _ k m hu, dif_pos ⟨hm, by rw [mkStr_size]; omega⟩]
  congr 3
  have := (List.getElem?_eq_some_iff.1 hc).2
  rw [← this]
  rfl

theorem gives_part {t : TypeId} {agg : Bool} {n o : Nat} {cs : List V} {as : Array Value} {v : V} (ha : aggOf P t = some agg) (hn : sizeOfT P t = some n)
    (hc : RVs I w cs as.toList) (hv : takeV agg n cs o = some v) : Gives P w (Go.part t as o) I lb v := by
  unfold takeV at hv
  simp only [Gives, Go.part, Sem.run_bind, run_agg ha, Result.andThen_ok]
  cases agg with
  | true =>
    simp only [if_true] at hv ⊢
    split at hv
    · cases hv
      refine ⟨.agg (as.extract o (o + n)), by simp [run_size hn], RF.of_rv ?_⟩
      simp only [RV]
      refine ⟨_, rfl, ?_⟩
      have : (as.extract o (o + n)).toList = (as.toList.drop o).take n := by simp []
      rw [this]
      exact (hc.drop o).take n
    · cases hv
  | false =>
    simp only [Bool.false_eq_true, if_false] at hv ⊢
    obtain ⟨c, hc', hr⟩ := hc.get hv
    refine ⟨c, ?_, RF.of_rv hr⟩
    have : as[o]? = some c := by simpa using hc'
    simp [this]

theorem gives_fld {t : TypeId} {fs : Array Field} {f : Nat} {fd : Field} {agg : Bool} {n : Nat} {cs : List V} {cv : Value} {v : V} (hu : P.underlying t = some (.struct fs))
    (hf : fs[f]? = some fd) (ha : aggOf P fd.type = some agg) (hn : sizeOfT P fd.type = some n) (hx : RF I w lb (.agg cs) cv) (hv : takeV agg n cs fd.offset = some v) :
    Gives P w (Instr.field t cv f) I lb v := by
  simp only [RF, RV] at hx
  obtain ⟨as, rfl, hc⟩ := hx
  obtain ⟨u, h1, h2⟩ := gives_part (lb := lb) ha hn hc hv
  refine ⟨u, ?_, h2⟩
  simp only [Instr.field, Sem.run_bind, run_und hu, Result.andThen_ok, hf, asAgg, Sem.run_pure, h1]

theorem gives_ixa {t e : TypeId} {agg : Bool} {n len sz : Nat} {cs : List V} {i : V} {cx ci : Value} {v : V} (hu : P.underlying t = some (.array len e))
    (ha : aggOf P e = some agg) (hn : sizeOfT P e = some sz) (hx : RF I w lb (.agg cs) cx) (hi : RF I w lb i ci) (hin : natOf i = some n)
    (hv : ixaV len sz agg (.agg cs) (some n) = some v) : Gives P w (Instr.index t cx ci) I lb v := by
  obtain ⟨k, m, rfl, hm, rfl⟩ := natOf_spec hin
  simp only [RF, RV] at hi
  subst hi
  simp only [RF, RV] at hx
  obtain ⟨as, rfl, hc⟩ := hx
  simp only [ixaV] at hv
  split at hv
  · rename_i hlt
    obtain ⟨u, h1, h2⟩ := gives_part (lb := lb) ha hn hc hv
    refine ⟨u, ?_, h2⟩
    simp only [Instr.index, asIntOf, Sem.run_bind, Sem.run_pure, Result.andThen_ok, run_und hu]
    rw [if_pos ⟨hm, by omega⟩]
    simp only [Sem.run_bind, run_size hn, Result.andThen_ok, h1]
  · cases hv

theorem gives_len {st : Bool} {t ty : TypeId} {x : V} {cx : Value} {v : V} (hu : if st then P.underlying t = some .string else ∃ e, P.underlying t = some (.slice e))
    (hx : RF I w lb x cx)
    (hv : lenV st x = some v) :
    Gives P w (Builtin.len_ #[t] ty #[cx]) I lb v := by
  cases x <;> simp only [lenV] at hv <;> try (cases hv; done)
  case str l =>
    split at hv
    · rename_i hst
      simp only [hst, if_true] at hu
      cases hv; simp only [RF, RV] at hx; subst hx
      exact .mk (.int .i64 l.length) (by simp [Builtin.len_, run_und hu, mkStr, goInt, mkStr_size]) (by simp only [RV])
    · cases hv
  case hs b o n c =>
    split at hv
    · cases hv
    · rename_i hst
      simp only [hst] at hu
      obtain ⟨e, hu⟩ := hu
      cases hv; simp only [RF, RV] at hx; subst hx
      exact .mk (.int .i64 n) (by simp [Builtin.len_, run_und hu, goInt]) (by simp only [RV])
  case sl xs sp ex tk =>
    split at hv
    · cases hv
    · rename_i hst
      simp only [hst] at hu
      obtain ⟨e, hu⟩ := hu
      cases hv; simp only [RF, RV] at hx
      obtain ⟨a, cap, rfl, _⟩ := hx
      exact .mk (.int .i64 xs.length) (by simp [Builtin.len_, run_und hu, goInt]) (by simp only [RV])

theorem gives_cap {t ty e : TypeId} {x : V} {cx : Value} {v : V} (hu : P.underlying t = some (.slice e)) (hx : RF I w lb x cx)
    (hv : capV x = some v) :
    Gives P w (Builtin.cap_ #[t] ty #[cx]) I lb v := by
  cases x <;> try (simp only [capV] at hv; cases hv; done)
  case hs b o n c =>
    simp only [capV] at hv
    cases hv; simp only [RF, RV] at hx; subst hx
    exact .mk (.int .i64 c) (by simp [Builtin.cap_, run_und hu, goInt]) (by simp only [RV])
  case sl xs sp ex tk =>
    cases ex <;> simp only [capV] at hv
    · cases hv
    · cases hv; simp only [RF, RV] at hx
      obtain ⟨a, cap, rfl, _, hc, _⟩ := hx
      rw [hc trivial]
      exact .mk (.int .i64 (xs.length + sp.length : Nat)) (by simp [Builtin.cap_, run_und hu, goInt]) (by simp only [RV])

theorem boundO_spec {T : Nat → V} {a : Act} (ht : ∀ i, RF I w lb (T i) (a.tmps.getD i undef)) {o : Option Operand} {x : Option X} (hc : (match o with | none => some none | some o => (cX o).map some) = some x)
    {n : Option Nat} (hb : boundO T x = some n) : (o.map a.eval = none ∧ n = none) ∨ ∃ k m, o.map a.eval = some (.int k m) ∧ 0 ≤ m ∧ n = some m.toNat := by
  cases o with
  | none => simp at hc; subst hc; simp only [boundO] at hb; cases hb; exact .inl ⟨rfl, rfl⟩
  | some o =>
    simp only [Option.map_eq_some_iff] at hc
    obtain ⟨x', hx, rfl⟩ := hc
    simp only [boundO, Option.map_eq_some_iff] at hb
    obtain ⟨m, hm, rfl⟩ := hb
    obtain ⟨k, z, he, h0, rfl⟩ := natOf_spec hm
    have := cX_sound hx ht
    rw [he] at this
    simp only [RF, RV] at this
    exact .inr ⟨k, z, by simp [this], h0, rfl⟩

theorem run_sliceBound (k : IntKind) (m : Int) (y : Nat) (c : BoundsCode) (h0 : 0 ≤ m) (hy : m.toNat ≤ y) : (Instr.sliceBound (.int k m) y c).run P w = .ok m.toNat w := by
  simp only [Instr.sliceBound, asIntOf, Sem.run_bind, Sem.run_pure, Result.andThen_ok]
  rw [if_pos ⟨h0, by omega⟩]; rfl

/-- the bounds of a slice expression. -/
theorem run_sliceBounds {isSlice : Bool} {len cap : Nat} {lo hi mx : Option Value} {l h m : Option Nat}
    (hl : (lo = none ∧ l = none) ∨ ∃ k z, lo = some (.int k z) ∧ 0 ≤ z ∧ l = some z.toNat)
    (hh : (hi = none ∧ h = none) ∨ ∃ k z, hi = some (.int k z) ∧ 0 ≤ z ∧ h = some z.toNat)
    (hm : (mx = none ∧ m = none) ∨ ∃ k z, mx = some (.int k z) ∧ 0 ≤ z ∧ m = some z.toNat)
    (h1 : l.getD 0 ≤ h.getD len) (h2 : h.getD len ≤ m.getD cap) (h3 : m.getD cap ≤ cap) (h4 : m ≠ none → h ≠ none) :
    (Instr.sliceBounds isSlice len cap lo hi mx).run P w = .ok (l.getD 0, h.getD len, m.getD cap) w := by
  rcases hm with ⟨rfl, rfl⟩ | ⟨k3, z3, rfl, hz3, rfl⟩
  · rcases hh with ⟨rfl, rfl⟩ | ⟨k2, z2, rfl, hz2, rfl⟩
    · rcases hl with ⟨rfl, rfl⟩ | ⟨k1, z1, rfl, hz1, rfl⟩
      · simp [Instr.sliceBounds]
      · simp at h1
        simp only [Instr.sliceBounds, Sem.run_bind, Sem.run_pure, Result.andThen_ok, Option.isSome_none, Bool.false_eq_true, if_false]
        rw [run_sliceBound k1 z1 len _ hz1 (by simpa using h1)]; simp
    · simp at h2
      rcases hl with ⟨rfl, rfl⟩ | ⟨k1, z1, rfl, hz1, rfl⟩
      · simp only [Instr.sliceBounds, Sem.run_bind, Sem.run_pure, Result.andThen_ok]
        rw [run_sliceBound k2 z2 cap _ hz2 (by simpa using h2)]; simp
      · simp at h1
        simp only [Instr.sliceBounds, Sem.run_bind, Sem.run_pure, Result.andThen_ok, Option.isSome_none, Bool.false_eq_true, if_false]
        rw [run_sliceBound k2 z2 cap _ hz2 (by simpa using h2)]
        simp only [Result.andThen_ok]
        rw [run_sliceBound k1 z1 _ _ hz1 (by omega)]; simp
  · rcases hh with ⟨rfl, rfl⟩ | ⟨k2, z2, rfl, hz2, rfl⟩
    · exact absurd rfl (h4 (by simp))
    · simp at h2 h3
      rcases hl with ⟨rfl, rfl⟩ | ⟨k1, z1, rfl, hz1, rfl⟩
      · simp only [Instr.sliceBounds, Sem.run_bind, Sem.run_pure, Result.andThen_ok]
        rw [run_sliceBound k3 z3 cap _ hz3 (by omega)]
        simp only [Result.andThen_ok]
        rw [run_sliceBound k2 z2 _ _ hz2 (by omega)]; simp
      · simp at h1
        simp only [Instr.sliceBounds, Sem.run_bind, Sem.run_pure, Option.isSome_some, if_true]
        rw [run_sliceBound k3 z3 cap _ hz3 (by omega)]
        simp only [Result.andThen_ok]
        rw [run_sliceBound k2 z2 _ _ hz2 (by omega)]
        simp only [Result.andThen_ok]
        rw [run_sliceBound k1 z1 _ _ hz1 (by omega)]; simp


theorem RVmm.two {k b o : Nat} {xs sp : List (List V)} (h : RVmm I w k b o xs) (h' : RVmm I w k b (o + xs.length * k) sp) (l m : Nat) (hl : l ≤ m) (_hm : m ≤ xs.length + sp.length) :
    RVmm I w k b (o + l * k) (((xs ++ sp).take m).drop l) ∧ RVmm I w k b (o + l * k + (m - l) * k) ((xs ++ sp).drop m) := by
  have ha := h.append h'
  refine ⟨(ha.take m).drop l, ?_⟩
  have := ha.drop m
  rwa [Nat.add_assoc, ← Nat.add_mul, Nat.add_sub_cancel' hl]

theorem gives_slc {st : Bool} {t : TypeId} {T : Nat → V} {a : Act} (ht : ∀ i, RF I w lb (T i) (a.tmps.getD i undef)) {x : V} {cx : Value} {v : V} {sz : Nat}
    (hu : if st then P.underlying t = some .string else ∃ e, P.underlying t = some (.slice e) ∧ sizeOfT P e = some sz)
    (hsz : ∀ xs sp ex tk, x = .sl xs sp ex tk → ∀ y ∈ xs ++ sp, y.length = sz)
    (hx : RF I w lb x cx) {lo hi mx : Option Operand} {xl xh xm : Option X}
    (hl : (match lo with | none => some none | some o => (cX o).map some) = some xl) (hh : (match hi with | none => some none | some o => (cX o).map some) = some xh)
    (hm : (match mx with | none => some none | some o => (cX o).map some) = some xm) {l h m : Option Nat}
    (bl : boundO T xl = some l) (bh : boundO T xh = some h) (bm : boundO T xm = some m) (hv : slcV st x h (l.getD 0) m = some v) :
    Gives P w (Instr.sliceAt t cx (lo.map a.eval) (hi.map a.eval) (mx.map a.eval)) I lb v := by
  have el := boundO_spec ht hl bl
  have eh := boundO_spec ht hh bh
  have em := boundO_spec ht hm bm
  cases x <;> simp only [slcV] at hv <;> try (cases hv; done)
  case str s =>
    split at hv
    · cases hv
    · rename_i hst
      simp only [not_or, Bool.not_eq_false, Decidable.not_not] at hst
      obtain ⟨rfl, rfl⟩ := hst
      simp only [if_true] at hu
      split at hv
      · rename_i hb
        cases hv
        simp only [RF, RV] at hx; subst hx
        have hmx : mx.map a.eval = none := by
          rcases em with ⟨h, _⟩ | ⟨k, z, _, _, h⟩
          · exact h
          · cases h
        refine .mk (mkStr ((s.take (h.getD s.length)).drop (l.getD 0))) ?_ (by simp only [RV])
        simp only [Instr.sliceAt, Instr.slice, Sem.run_bind, run_und hu, Result.andThen_ok, mkStr, hmx, Option.isSome_none, Bool.false_eq_true, if_false, mkStr_size]
        rw [run_sliceBounds (h := h) (l := l) (m := none) el eh (.inl ⟨rfl, rfl⟩) hb.1 (by simpa using hb.2) (by simp) (by simp)]
        simp only [Result.andThen_ok, Sem.run_pure, mkStr_extract]
      · cases hv
  case sl xs sp ex tk =>
    split at hv
    · cases hv
    · rename_i hst
      simp only [hst] at hu
      obtain ⟨e, hu, hn⟩ := hu
      have hsz := hsz xs sp ex tk rfl
      simp only [RF, RV] at hx
      obtain ⟨ad, cap, rfl, h1, h2, h3, h4, h5, h6⟩ := hx
      have fin : ∀ (L H M : Nat) (ex' : Bool), L ≤ H → H ≤ xs.length + sp.length → H ≤ M → M ≤ cap → (ex' = true → M = xs.length + sp.length ∨ M = H) → ∀ sp' : List (List V), (sp' = (xs ++ sp).drop H ∨ sp' = []) → H + sp'.length ≤ M → (ex' = true → M = H + sp'.length) →
          ∀ tk', (∀ b c, tk' = some (b, c) → L = 0 ∧ tk = some (b, c) ∧ M = cap) →
          RV I w (.sl (((xs ++ sp).take H).drop L) sp' ex' tk') (.slice (if M = L then ad else ad.map (·.add (L * sz))) (H - L) (M - L)) := by
        intro L H M ex' hLH hH hHM hM hex sp' hsp hspl hexl tk' htk
        have hlen : (((xs ++ sp).take H).drop L).length = H - L := by simp; omega
        simp only [RV]
        refine ⟨_, _, by rw [hlen], by rw [hlen]; omega, fun he => by rw [hlen]; have := hexl he; omega, by omega, ?_, ?_, ?_⟩
        · intro b c hb
          obtain ⟨rfl, hb, rfl⟩ := htk b c hb
          obtain ⟨rfl, rfl⟩ := h4 b c hb
          simp [add_none]
        · intro hn
          split at hn
          · rename_i he; omega
          · simp at hn
            have := h5 hn; omega
        · intro hne
          rw [if_neg (by omega)]
          by_cases hc : cap = 0
          · omega
          · obtain ⟨b, o, k, rfl, m1, m2⟩ := h6 hc
            have hk : (xs ++ sp ≠ []) → k = sz := by
              intro hne
              cases hxs : xs ++ sp with
              | nil => exact absurd hxs hne
              | cons y ys =>
                have := (m1.append m2).get (i := 0) (x := y) (by rw [hxs]; rfl)
                have h' := hsz y (by rw [hxs]; simp)
                omega
            refine ⟨b, o + L * sz, sz, by simp [add_none], ?_⟩
            by_cases hxs : xs ++ sp = []
            · simp only [hxs, List.take_nil, List.drop_nil, List.length_nil, RVmm, true_and]
              rcases hsp with rfl | rfl
              · simp [hxs, RVmm]
              · simp [RVmm]
            · obtain rfl := hk hxs
              obtain ⟨q1, q2⟩ := m1.two m2 L H hLH hH
              refine ⟨q1, ?_⟩
              rw [hlen]
              rcases hsp with rfl | rfl
              · exact q2
              · simp only [RVmm]
      have run : ∀ (hb1 : l.getD 0 ≤ h.getD xs.length) (hb2 : h.getD xs.length ≤ m.getD cap) (hb3 : m.getD cap ≤ cap) (hb4 : m ≠ none → h ≠ none),
          (Instr.sliceAt t (.slice ad xs.length cap) (lo.map a.eval) (hi.map a.eval) (mx.map a.eval)).run P w =
            .ok (.slice (if m.getD cap = l.getD 0 then ad else ad.map (·.add (l.getD 0 * sz))) (h.getD xs.length - l.getD 0) (m.getD cap - l.getD 0)) w := by
        intro hb1 hb2 hb3 hb4
        simp only [Instr.sliceAt, Instr.slice, Sem.run_bind, run_und hu, Result.andThen_ok]
        rw [run_sliceBounds (h := h) (l := l) (m := m) el eh em hb1 hb2 hb3 hb4]
        simp only [Result.andThen_ok, run_size hn, Sem.run_pure]
      cases m with
      | none =>
        simp only at hv
        split at hv
        · rename_i hb
          cases hv
          refine ⟨_, run hb.1 (by simp only [Option.getD_none]; omega) (by simp) (by simp), RF.of_rv ?_⟩
          simp only [Option.getD_none]
          refine fin _ _ cap ex hb.1 hb.2 (by omega) (Nat.le_refl _) (fun he => .inl (h2 he)) _ (.inl rfl) (by simp; omega) (fun he => by have := h2 he; simp; omega) _ ?_
          intro b c hb'
          split at hb'
          · exact ⟨by assumption, hb', rfl⟩
          · cases hb'
        · cases hv
      | some m =>
        simp only at hv
        split at hv
        · rename_i hb
          cases hv
          refine ⟨_, run hb.2.1 (by simp only [Option.getD_some]; omega) (by simp only [Option.getD_some]; omega) (fun _ => hb.1), RF.of_rv ?_⟩
          simp only [Option.getD_some]
          refine fin _ _ m true hb.2.1 hb.2.2.2 (by omega) (by omega) (fun he => .inr (by omega)) [] (.inr rfl) (by simp; omega) (fun he => by simp; omega) none (by simp)
        · cases hv

theorem gives_nilck {x : V} {cx : Value} {v : V} (hx : RF I w lb x cx)
    (hv : nilckV x = some v) :
    (∃ ad, cx = .pointer (some ad)) ∧ RF I w lb v cx := by
  cases x <;> simp only [nilckV] at hv <;> try (cases hv; done)
  case ptr b o => cases hv; refine ⟨?_, hx⟩; simp only [RF, RV] at hx; exact ⟨_, hx⟩
  case lp k u o => cases hv; refine ⟨?_, hx⟩; simp only [RF] at hx; obtain ⟨b, h, _⟩ := hx; exact ⟨_, h⟩
  case ip cs o => cases hv; refine ⟨?_, hx⟩; simp only [RF, RV] at hx; obtain ⟨b, o0, h, _⟩ := hx; exact ⟨_, h⟩


/-- what a value's cells are in the machine. -/
theorem cells_rel : ∀ {v : V} {cv : Value}, solid v = true → RF I w lb v cv → RVs I w (cellsOf v) cv.cells.toList
  | .agg cs, cv, _, h => by
    simp only [RF, RV] at h
    obtain ⟨a, rfl, h⟩ := h
    exact h
  | .lp _ _ _, _, h, _ | .any, _, h, _ | .c _, _, h, _ => by simp [solid] at h
  | .int _ _, _, _, h | .bool _, _, _, h | .ptr _ _, _, _, h | .nilp, _, _, h | .hs _ _ _ _, _, _, h | .nilfn, _, _, h | .nilif, _, _, h
  | .map _, _, _, h | .nilmap, _, _, h => by
    have h' := h
    simp only [RF, RV] at h'
    subst h'
    simp only [cellsOf, Value.cells, RVs]; exact ⟨h, trivial⟩
  | .str _, _, _, h => by
    have h' := h
    simp only [RF, RV] at h'
    subst h'
    simp only [cellsOf, Value.cells, mkStr, RVs]; exact ⟨h, trivial⟩
  | .sl _ _ _ _, _, _, h => by
    have h' := h
    simp only [RF, RV] at h'
    obtain ⟨a, cap, rfl, _⟩ := h'
    simp only [cellsOf, Value.cells, RVs]; exact ⟨h, trivial⟩
  | .fn _ _ _, _, _, h => by
    have h' := h
    simp only [RF, RV] at h'
    obtain ⟨a, cap, rfl, _⟩ := h'
    simp only [cellsOf, Value.cells, RVs]; exact ⟨h, trivial⟩
  | .ifc _ _, _, _, h => by
    have h' := h
    simp only [RF, RV] at h'
    obtain ⟨a, rfl, _⟩ := h'
    simp only [cellsOf, Value.cells, RVs]; exact ⟨h, trivial⟩
  | .tup _, _, _, h => by
    have h' := h
    simp only [RF, RV] at h'
    obtain ⟨a, rfl, _⟩ := h'
    simp only [cellsOf, Value.cells, RVs]; exact ⟨h, trivial⟩
  | .ip _ _, _, _, h => by
    have h' := h
    simp only [RF, RV] at h'
    obtain ⟨b, o, rfl, _⟩ := h'
    simp only [cellsOf, Value.cells, RVs]; exact ⟨h, trivial⟩

theorem foldl_splice (off : Nat) : ∀ (vs : List Value) (j : Nat) (cells : Array Value), off + j + vs.length ≤ cells.size →
    ((vs.zipIdx j).foldl (fun cs (x : Value × Nat) => cs.setIfInBounds (off + x.2) x.1) cells).toList = cells.toList.take (off + j) ++ vs ++ cells.toList.drop (off + j + vs.length)
  | [], j, cells, h => by simp
  | v :: vs, j, cells, h => by
    simp only [List.zipIdx_cons, List.foldl_cons]
    simp only [List.length_cons] at h
    rw [foldl_splice off vs (j + 1) _ (by simp; omega)]
    have hl : off + j < cells.toList.length := by simp; omega
    have e : (cells.setIfInBounds (off + j) v).toList = cells.toList.take (off + j) ++ v :: cells.toList.drop (off + j + 1) := by
      rw [Array.toList_setIfInBounds, List.set_eq_take_append_cons_drop, if_pos hl]
    have hlt : (cells.toList.take (off + j)).length = off + j := by simp; omega
    rw [e]
    simp only [List.length_cons]
    rw [show off + (j + 1) = (cells.toList.take (off + j)).length + 1 by omega, List.take_length_add_append,
      show (cells.toList.take (off + j)).length + 1 + vs.length = (cells.toList.take (off + j)).length + (1 + vs.length) by omega, List.drop_length_add_append]
    simp only [List.take_succ_cons, List.take_zero]
    rw [show 1 + vs.length = vs.length + 1 by omega, List.drop_succ_cons, List.drop_drop]
    simp only [List.append_assoc, List.cons_append, List.nil_append]
    rw [show off + j + 1 + vs.length = off + j + (vs.length + 1) by omega]

inductive Both {α β : Type} (R : α → β → Prop) : List α → List β → Prop where
  | nil : Both R [] []
  | cons {a : α} {b : β} {as : List α} {bs : List β} (h : R a b) (t : Both R as bs) : Both R (a :: as) (b :: bs)

theorem fill_rel {place : Nat → Option (Nat × Nat)} : ∀ (ps : List (Nat × Value)) (qs : List (Nat × Nat × V)) (cells : Array Value) (cs cs' : List V),
    RVs I w cs cells.toList → Both (fun (p : Nat × Value) (q : Nat × Nat × V) => place p.1 = some (q.1, q.2.1) ∧ RF I w lb q.2.2 p.2) ps qs → fillV cs qs = some cs' →
    ∃ cells', Instr.fill place cells ps = some cells' ∧ RVs I w cs' cells'.toList
  | [], [], cells, cs, cs', hc, _, h => by
    simp only [fillV, Option.some.injEq] at h; subst h
    exact ⟨cells, rfl, hc⟩
  | (i, v) :: ps, (off, n, x) :: qs, cells, cs, cs', hc, .cons ⟨hp, hv⟩ hr, h => by
    simp only [fillV] at h
    split at h
    · rename_i hok
      obtain ⟨hs, hn, hl⟩ := hok
      have hcv := cells_rel hs hv
      have hlen := hcv.length
      have hlc := hc.length
      simp only [Array.length_toList] at hlen hlc
      simp only [Instr.fill, hp]
      rw [if_neg (by simp; omega)]
      refine fill_rel ps qs _ _ cs' ?_ hr h
      have := foldl_splice off v.cells.toList 0 cells (by simp; omega)
      have e : (v.cells.zipIdx.foldl (fun cs (x : Value × Nat) => cs.setIfInBounds (off + x.2) x.1) cells).toList = ((v.cells.toList.zipIdx 0).foldl (fun cs (x : Value × Nat) => cs.setIfInBounds (off + x.2) x.1) cells).toList := by
        rw [← Array.foldl_toList, Array.toList_zipIdx]
      rw [e, this]
      simp only [Nat.add_zero]
      have hlen2 : v.cells.toList.length = n := by simp; omega
      rw [hlen2]
      exact ((hc.take off).append hcv).append (hc.drop (off + n))
    · cases h

end

end Go.VL
