/-
  a part of the proof: the texts VlZ, VlZa, VlZb, VlZc, VlZd, VlZe, VlZf, VlZg, VlZh, VlZi, joined: helper laws; none of them is the statement.
-/
import Derived.Test.YthjjlmkooofdiaaGreatDoorVl09

/-
  VlZ: twin.Value: the value, in memory of its own.
-/
namespace Go.Proofs.YthjjlmkooofdiaaGreatDoor
open Go Go.VL

theorem clone_room {n : Nat} (h : n ≤ 1048576) : n * 1024 ≤ 140737488355328 := Nat.le_trans (Nat.mul_le_mul_right _ h) (by decide)

theorem gv72 (k n : Int) (t : List UInt8) (l : List Val) (f : List Fld) (el : Int) (key : List UInt8) (has : Bool) (hl : Gv Tryz.prog 85 [.sl (Val.rows l) [] false none] (.sl (Val.rows l) [] false none))
    (hf : Gv Tryz.prog 86 [.sl (Fld.rows f) [] false none] (.sl (Fld.rows f) [] false none)) : Gv Tryz.prog 72 [.agg (Val.mk k n t l f el key has).cells] (.agg (Val.mk k n t l f el key has).cells) := fun s => ac72 (by simp) (by
  simp [sc72, Val.cells]
  refine (hl s).mono ?_
  rintro r s' ⟨rfl, rfl⟩
  simp
  refine (hf s').mono ?_
  rintro r s'' ⟨rfl, rfl⟩
  simp)

theorem own_l85 (l : List Val) (hn : l.length ≤ 1048576) (h : ∀ x ∈ l, Gv Tryz.prog 72 [.agg x.cells] (.agg x.cells)) : Gv Tryz.prog 85 [.sl (Val.rows l) [] false none] (.sl (Val.rows l) [] false none) := by
  rw [Val.rows_eq]
  refine gv85 _ (fun x hx => ?_) (clone_room (by simpa using hn))
  obtain ⟨a, ha, rfl⟩ := List.mem_map.1 hx
  exact ⟨Val.len a, Val.one a, h a ha⟩

theorem own_l86 (l : List Fld) (hn : l.length ≤ 1048576) (h : ∀ x ∈ l, Gv Tryz.prog 72 [.agg x.cells.tail] (.agg x.cells.tail)) : Gv Tryz.prog 86 [.sl (Fld.rows l) [] false none] (.sl (Fld.rows l) [] false none) := by
  rw [Fld.rows_eq]
  refine gv86 _ (fun x hx => ?_) (clone_room (by simpa using hn))
  obtain ⟨a, ha, rfl⟩ := List.mem_map.1 hx
  exact ⟨Fld.len a, Fld.one a, h a ha⟩

mutual
theorem own_val : ∀ v : Val, Fit v → Gv Tryz.prog 72 [.agg v.cells] (.agg v.cells)
  | .mk k n s l f el key has, h => by
    simp only [Fit] at h
    exact gv72 k n s l f el key has (own_l85 l h.1 (own_vals l h.2.2.1)) (own_l86 f h.2.1 (own_flds f h.2.2.2))
theorem own_vals : ∀ l : List Val, Fits l → ∀ x ∈ l, Gv Tryz.prog 72 [.agg x.cells] (.agg x.cells)
  | [], _, x, h => by cases h
  | v :: l, hf, x, h => by
    simp only [Fits] at hf
    rcases List.mem_cons.1 h with e | h
    · rw [e]; exact own_val v hf.1
    · exact own_vals l hf.2 x h
theorem own_fld : ∀ v : Fld, FitF v → Gv Tryz.prog 72 [.agg v.cells.tail] (.agg v.cells.tail)
  | .mk name v, h => by simp only [FitF] at h; simpa only [Fld.cells, List.tail_cons] using own_val v h
theorem own_flds : ∀ l : List Fld, FitFs l → ∀ x ∈ l, Gv Tryz.prog 72 [.agg x.cells.tail] (.agg x.cells.tail)
  | [], _, x, h => by cases h
  | v :: l, hf, x, h => by
    simp only [FitFs] at hf
    rcases List.mem_cons.1 h with e | h
    · rw [e]; exact own_fld v hf.1
    · exact own_flds l hf.2 x h
end

end Go.Proofs.YthjjlmkooofdiaaGreatDoor

/-
  VlZa: the machine of an evaluation: what goes up.
-/
namespace Go.Proofs.YthjjlmkooofdiaaGreatDoor
open Go Go.VL

/-- a block of one's own, as it is now. -/
def put1 (s : H) (b : Nat) (cs : List V) : H := { s with c := upd s.c b (some cs) }

theorem put1Uput1 (s : H) (b : Nat) (cs cs' : List V) : put1 (put1 s b cs) b cs' = put1 s b cs' := by
  simp only [put1]
  congr 1
  funext i
  simp only [upd]
  split <;> rfl
theorem put1Uc (s : H) (b : Nat) (cs : List V) : (put1 s b cs).c b = some cs := by simp [put1]

def textCells (t : List UInt8) : List V := [.int .u8 3, .int .i64 0, .str t, .sl [] [] true none, .sl [] [] true none, .int .u8 0, .str [], .bool false]

theorem gv34 (t : List UInt8) : Gv Tryz.prog 34 [.str t] (.agg (textCells t)) := fun s => ac34 (by simp) (by
  simp [sc34, textCells])

theorem gv33 (b : Nat) (mc v8 : List V) (hv : v8.length = 8) (hone : ∀ x ∈ v8, one x = true) (s : H) (hs : s.c b = some mc) (hm : mc.length = 15) :
    AC Tryz.prog 33 [.ptr b 0, .agg v8] s fun r s' => r = .tup [.agg zVal, .bool false] ∧ s' = put1 s b (mc.take 4 ++ (.int .u8 1 :: v8 ++ [.str [], .int .i64 0])) := ac33 (by simp) (by
  have ht : List.take 8 v8 = v8 := by rw [← hv, List.take_length]
  have hd : List.drop 15 mc = [] := by rw [← hm, List.drop_length]
  simp [sc33, hv, hs, hm, ht, hd, zVal, put1]
  rintro a (h | rfl | rfl)
  · exact hone a h
  · rfl
  · rfl)

theorem textCells_len (t : List UInt8) : (textCells t).length = 8 := by simp [textCells]
theorem textCells_one (t : List UInt8) : ∀ x ∈ textCells t, one x = true := by simp [textCells]

/-- what fails goes up. -/
theorem gv26 (b : Nat) (mc : List V) (t : List UInt8) (s : H) (hs : s.c b = some mc) (hm : mc.length = 15) :
    AC Tryz.prog 26 [.ptr b 0, .str t] s fun r s' => r = .tup [.agg zVal, .bool false] ∧ s' = put1 s b (mc.take 4 ++ (.int .u8 1 :: textCells t ++ [.str [], .int .i64 0])) := ac26 (by simp) (by
  simp [sc26]
  refine (gv34 t s).mono ?_
  rintro r s' ⟨rfl, rfl⟩
  simp
  refine (gv33 b mc (textCells t) (textCells_len t) (textCells_one t) s' hs hm).mono ?_
  rintro r s'' ⟨rfl, rfl⟩
  simp [zVal])

end Go.Proofs.YthjjlmkooofdiaaGreatDoor

/-
  VlZb: names; the table of what expressions come to.
-/
namespace Go.Proofs.YthjjlmkooofdiaaGreatDoor
open Go Go.VL

/-- is a text a name. -/
def isName (l : List UInt8) : Bool := decide (l ≠ []) && decide (l.length ≤ 4096)

theorem gv42 (l : List UInt8) : Gv Tryz.prog 42 [.str l] (.bool (isName l)) := fun s => ac42 (by simp) (by
  by_cases h : l = []
  · subst h; simp [sc42, isName]
  · simp [sc42, isName, h]
    omega)

theorem gv104 (l : List UInt8) : Gv Tryz.prog 104 [.str l] (.bool (isName l)) := fun s => ac104 (by simp) (by
  by_cases h : l = []
  · subst h; simp [sc104, isName]
  · simp [sc104, isName, h]
    omega)

/-- may an expression that is a name be. -/
theorem gv41 (k n : Int) (t : List UInt8) (a b c d e : V) (el : Int) (site : List UInt8) : Gv Tryz.prog 41 [.agg [.int .u8 k, .int .i64 n, .str t, a, b, c, .int .u8 el, d, e, .str site]] (.bool (isName t)) := fun s => ac41 (by simp) (by
  simp [sc41]
  refine (gv42 t s).mono ?_
  rintro r s' ⟨rfl, rfl⟩
  simp)

theorem put1Ule {s : H} {b : Nat} {cs : List V} (h : s.c b = none) : H.le s (put1 s b cs) :=
  ⟨fun b' cs' h' => by
    simp only [put1, upd]
    split
    · rename_i e; subst e; rw [h] at h'; cases h'
    · exact h', fun _ _ h => h, fun _ h => h, fun _ _ h => h⟩

/-- how many parts: a function that knows it. -/
theorem gv46 (n : Int) (s : H) : AC Tryz.prog 46 [.int .i64 n] s fun r s' => (∃ b, r = .fn (.func 67) [] [.ptr b 0]) ∧ s' = s := by
  refine AC.weak (Q := fun r s' => ∃ b, s.c b = none ∧ r = .fn (.func 67) [] [.ptr b 0] ∧ s' = put1 s b [.int .i64 n]) ?_ fun r s' ⟨b, h1, h2, h3⟩ => ⟨r, s, Le.refl _, by rw [h3]; exact put1Ule h1, ⟨b, h2⟩, rfl⟩
  refine ac46 (by simp) ?_
  simp [sc46]
  intro b h1 h2
  exact ⟨b, h1, rfl, rfl⟩

def fnV (f : Nat) : V := .fn (.func f) [] []

/-- the table: what the entries are that are told; the three that hold a count are some functions. -/
def rowCells (a b c : V) : List V := [fnV 35, fnV 36, fnV 35, fnV 37, fnV 35, fnV 38, fnV 39, fnV 40, fnV 41, fnV 43, fnV 44, fnV 45, a, fnV 47, fnV 48, fnV 49, b, fnV 50, c, fnV 51, fnV 52, fnV 54, fnV 55, fnV 56, fnV 57, fnV 58]

set_option maxHeartbeats 2000000 in
theorem gv27 (s : H) : AC Tryz.prog 27 [] s fun r s' => (∃ x y z : Nat, r = .agg (rowCells (.fn (.func 67) [] [.ptr x 0]) (.fn (.func 67) [] [.ptr y 0]) (.fn (.func 67) [] [.ptr z 0]))) ∧ s' = s := ac27 (by simp) (by
  simp only [sc27]
  refine wpS_cut (fun T L s' => T 0 = .lp 0 1 0 ∧ L 0 = (1, List.replicate 26 .nilfn) ∧ s' = s) (by simp) ?_
  rintro T L s0 ⟨h0, hL, rfl⟩
  refine wpS_cut (fun T L s' => (∃ x y z : Nat, T 0 = .lp 0 1 0 ∧ L 0 = (1, rowCells (.fn (.func 67) [] [.ptr x 0]) (.fn (.func 67) [] [.ptr y 0]) (.fn (.func 67) [] [.ptr z 0]))) ∧ s' = s0) ?_ (by
    rintro T L s' ⟨⟨x, y, z, h0, hL⟩, rfl⟩
    simp [h0, hL, rowCells, fnV])
  simp only [wpS]
  refine wpRs_cut 7 (fun T L s' => T 0 = .lp 0 1 0 ∧ L 0 = (1, List.replicate 26 .nilfn) ∧ s' = s0 ∧ T 1 = .agg [fnV 35, fnV 36] ∧ T 2 = .agg [fnV 35, fnV 37] ∧ T 3 = .agg [fnV 35, fnV 38] ∧ T 4 = .agg [fnV 39, fnV 40] ∧ T 5 = .agg [fnV 41, fnV 43] ∧
    T 6 = .agg [fnV 44, fnV 45] ∧ ∃ x : Nat, T 7 = .fn (.func 67) [] [.ptr x 0]) ?_ ?_
  · simp [h0, hL, fnV]
    refine (gv46 3 s0).mono ?_
    rintro r s' ⟨⟨x, rfl⟩, rfl⟩
    simp
  rintro T L s1 ⟨h0, hL, rfl, q1, q2, q3, q4, q5, q6, x, q7⟩
  simp only [List.drop]
  refine wpRs_cut 3 (fun T L s' => T 0 = .lp 0 1 0 ∧ L 0 = (1, List.replicate 26 .nilfn) ∧ s' = s1 ∧ T 1 = .agg [fnV 35, fnV 36] ∧ T 2 = .agg [fnV 35, fnV 37] ∧ T 3 = .agg [fnV 35, fnV 38] ∧ T 4 = .agg [fnV 39, fnV 40] ∧ T 5 = .agg [fnV 41, fnV 43] ∧
    T 6 = .agg [fnV 44, fnV 45] ∧ T 8 = .agg [.fn (.func 67) [] [.ptr x 0], fnV 47] ∧ T 9 = .agg [fnV 48, fnV 49] ∧ ∃ x : Nat, T 10 = .fn (.func 67) [] [.ptr x 0]) ?_ ?_
  · simp [h0, hL, fnV, q1, q2, q3, q4, q5, q6, q7]
    refine (gv46 1 s1).mono ?_
    rintro r s' ⟨⟨y, rfl⟩, rfl⟩
    simp
  rintro T L s2 ⟨h0, hL, rfl, q1, q2, q3, q4, q5, q6, q8, q9, y, q10⟩
  simp only [List.drop]
  refine wpRs_cut 2 (fun T L s' => T 0 = .lp 0 1 0 ∧ L 0 = (1, List.replicate 26 .nilfn) ∧ s' = s2 ∧ T 1 = .agg [fnV 35, fnV 36] ∧ T 2 = .agg [fnV 35, fnV 37] ∧ T 3 = .agg [fnV 35, fnV 38] ∧ T 4 = .agg [fnV 39, fnV 40] ∧ T 5 = .agg [fnV 41, fnV 43] ∧
    T 6 = .agg [fnV 44, fnV 45] ∧ T 8 = .agg [.fn (.func 67) [] [.ptr x 0], fnV 47] ∧ T 9 = .agg [fnV 48, fnV 49] ∧ T 11 = .agg [.fn (.func 67) [] [.ptr y 0], fnV 50] ∧ ∃ x : Nat, T 12 = .fn (.func 67) [] [.ptr x 0]) ?_ ?_
  · simp [h0, hL, fnV, q1, q2, q3, q4, q5, q6, q8, q9, q10]
    refine (gv46 1 s2).mono ?_
    rintro r s' ⟨⟨z, rfl⟩, rfl⟩
    simp
  rintro T L s3 ⟨h0, hL, rfl, q1, q2, q3, q4, q5, q6, q8, q9, q11, z, q12⟩
  simp [h0, hL, fnV, q1, q2, q3, q4, q5, q6, q8, q9, q11, q12]
  exact ⟨x, y, z, by simp [rowCells, fnV]⟩)

end Go.Proofs.YthjjlmkooofdiaaGreatDoor

/-
  VlZc: is a kind in a list of kinds.
-/
namespace Go.Proofs.YthjjlmkooofdiaaGreatDoor
open Go Go.VL

def kindRows (l : List Int) : List (List V) := l.map fun n => [.int .u8 n]

/-- where it stands first; -1: nowhere. -/
def idxOf (k : Int) : Nat → List Int → Int
  | _, [] => -1
  | i, n :: l => if k = n then (i : Int) else idxOf k (i + 1) l

theorem gv145 (l : List Int) (k : Int) : Gv Tryz.prog 145 [.sl (kindRows l) [] false none, .int .u8 k] (.int .i64 (idxOf k 0 l)) := fun s => ac145 (by simp) (by
  have hlen : (kindRows l).length = l.length := by simp [kindRows]
  have hrow : ∀ i : Nat, (kindRows l)[i]? = (l[i]?).map fun g => [V.int .u8 g] := by intro i; simp [kindRows]
  simp [sc145, hlen]
  intro htop
  refine ⟨fun n T L s' => ∃ i, i ≤ l.length ∧ n = l.length - i ∧ T 0 = .sl (kindRows l) [] false none ∧ T 1 = .int .u8 k ∧ T 7 = .int .i64 l.length ∧ T 8 = .int .i64 (i : Nat) ∧ s' = s ∧ idxOf k i (l.drop i) = idxOf k 0 l, ?_, ?_⟩
  · exact ⟨l.length, 0, by simp, by simp, by simp, by simp, by simp, by simp, rfl, by simp⟩
  · rintro n T L s' ⟨i, hi, rfl, h0, h1, h7, h8, rfl, hrun⟩
    by_cases hlt : i < l.length
    · have hdrop : l.drop i = l[i] :: l.drop (i + 1) := List.drop_eq_getElem_cons hlt
      have hli : l[i]? = some l[i] := List.getElem?_eq_getElem hlt
      rw [hdrop] at hrun
      simp only [idxOf] at hrun
      by_cases hk : k = l[i]
      · rw [if_pos hk] at hrun
        simp [h0, h1, h7, h8, hlt, hrow, ← hk]
        exact hrun
      · rw [if_neg hk] at hrun
        simp [h0, h1, h7, h8, hlt, hrow, hk]
        exact ⟨l.length - (i + 1), by omega, i + 1, by omega, rfl, wrap_succ i (by omega), hrun⟩
    · have : i = l.length := by omega
      subst this
      rw [List.drop_eq_nil_of_le (Nat.le_refl _)] at hrun
      simp only [idxOf] at hrun
      simp [h7, h8, ← hrun])

theorem gv107 (l : List Int) (k : Int) : Gv Tryz.prog 107 [.sl (kindRows l) [] false none, .int .u8 k] (.bool (decide (0 ≤ idxOf k 0 l))) := fun s => ac107 (by simp) (by
  simp [sc107]
  refine (gv145 l k s).mono ?_
  rintro r s' ⟨rfl, rfl⟩
  simp)

/-- the closure that knows a value's kind. -/
theorem ac106' (l : List Int) (k : Int) (b : Nat) (r : List V) (s : H) (hs : s.c b = some (.int .u8 k :: r)) (e : Bool) (t : Option (Nat × Nat)) :
    AC Tryz.prog 106 [.sl (kindRows l) [] e t, .ptr b 0] s fun v s' => v = .bool (decide (0 ≤ idxOf k 0 l)) ∧ s' = s := by
  refine AC.args (args' := [.sl (kindRows l) [] false none, .ptr b 0]) ?_ (Les.cons (Le.sl _ _ _ _) (Les.refl _))
  refine ac106 (by simp) ?_
  simp [sc106, hs]
  refine (gv107 l k s).mono ?_
  rintro v s' ⟨rfl, rfl⟩
  simp

end Go.Proofs.YthjjlmkooofdiaaGreatDoor

/-
  VlZd: the fields that an element of a kind has; are they these.
-/
namespace Go.Proofs.YthjjlmkooofdiaaGreatDoor
open Go Go.VL

theorem gv144 (f : Fld) (t : List UInt8) : ∃ b : Bool, Gv Tryz.prog 144 [.agg f.cells, .str t] (.bool b) := by
  obtain ⟨name, v⟩ := f
  refine ⟨decide (name = t), fun s => ac144 (by simp) ?_⟩
  have hl := v.len
  simp [sc144, Fld.cells, hl]

/-- the names of an element's fields, and whether there may be no others. -/
def ownN (k : Int) : List (List UInt8) × Bool :=
  if k = 6 then ([[118, 97, 108, 117, 101]], true) else if k = 7 then ([[97, 103, 97, 105, 110], [101, 108, 115, 101]], true) else if k = 8 then ([[101, 108, 115, 101]], true) else if k = 4 then ([], true) else if k = 5 then ([], true) else ([], false)

theorem gv142 (k : Int) : Gv Tryz.prog 142 [.int .u8 k] (.tup [.sl (txtRows (ownN k).1) [] false none, .bool (ownN k).2]) := by
  have weak : ∀ (names : List (List UInt8)) (just : Bool), (∀ s, AC Tryz.prog 142 [.int .u8 k] s fun r s' => r = .tup [.sl (txtRows names) [] true none, .bool just] ∧ s' = s) →
      Gv Tryz.prog 142 [.int .u8 k] (.tup [.sl (txtRows names) [] false none, .bool just]) := fun names just h s =>
    (h s).weak fun r s' ⟨e1, e2⟩ => ⟨_, s', by rw [e1]; exact Le.tup (Les.cons (Le.sl _ _ _ _) (Les.refl _)), H.le.refl _, rfl, e2⟩
  unfold ownN
  by_cases h6 : k = 6
  · rw [if_pos h6]
    refine weak _ _ fun s => ac142 (by simp) ?_
    simp [sc142, h6, txtRows, chunks]
  rw [if_neg h6]
  by_cases h7 : k = 7
  · rw [if_pos h7]
    refine weak _ _ fun s => ac142 (by simp) ?_
    simp [sc142, h7, txtRows, chunks]
  rw [if_neg h7]
  by_cases h8 : k = 8
  · rw [if_pos h8]
    refine weak _ _ fun s => ac142 (by simp) ?_
    simp [sc142, h8, txtRows, chunks]
  rw [if_neg h8]
  by_cases h4 : k = 4
  · rw [if_pos h4]
    refine weak _ _ fun s => ac142 (by simp) ?_
    simp [sc142, h4, txtRows]
  rw [if_neg h4]
  by_cases h5 : k = 5
  · rw [if_pos h5]
    refine weak _ _ fun s => ac142 (by simp) ?_
    simp [sc142, h5, txtRows]
  · rw [if_neg h5]
    refine weak _ _ fun s => ac142 (by simp) ?_
    simp [sc142, h4, h5, h6, h7, h8, txtRows]

def fname : Fld → List UInt8
  | .mk name _ => name

theorem gv144' (f : Fld) (t : List UInt8) : Gv Tryz.prog 144 [.agg f.cells, .str t] (.bool (decide (fname f = t))) := by
  obtain ⟨name, v⟩ := f
  refine fun s => ac144 (by simp) ?_
  have hl := v.len
  simp [sc144, Fld.cells, hl, fname]
  exact decide_eq_decide.2 Iff.rfl

def eqAll : List Fld → List (List UInt8) → Bool
  | f :: fs, t :: ts => if fname f = t then eqAll fs ts else false
  | _, _ => true

theorem gv143 (f : List Fld) (l : List (List UInt8)) : Gv Tryz.prog 143 [.sl (f.map Fld.cells) [] false none, .sl (txtRows l) [] false none, fnV 144] (.bool (if f.length = l.length then eqAll f l else false)) := fun s => ac143 (by simp) (by
  have hlen : (txtRows l).length = l.length := by simp [txtRows]
  have hrow : ∀ i : Nat, (txtRows l)[i]? = (l[i]?).map fun g => [V.str g] := by intro i; simp [txtRows]
  by_cases hfl : f.length = l.length
  · rw [if_pos hfl]
    simp only [sc143]
    refine wpS_cut (fun T L s' => T 0 = .sl (f.map Fld.cells) [] false none ∧ T 1 = .sl (txtRows l) [] false none ∧ T 2 = fnV 144 ∧ s' = s) (by simp) ?_
    rintro T L s0 ⟨h0, h1, h2, rfl⟩
    refine wpS_cut (fun T L s' => T 0 = .sl (f.map Fld.cells) [] false none ∧ T 1 = .sl (txtRows l) [] false none ∧ T 2 = fnV 144 ∧ s' = s0 ∧ f.length < top) ?_ ?_
    · simp [h0, h1, h2, hlen, hfl]
      try (intro h _; exact h)
    rintro T L s1 ⟨h0, h1, h2, rfl, htop⟩
    simp [h0]
    intro _
    refine ⟨fun n T L s' => ∃ i, i ≤ f.length ∧ n = f.length - i ∧ T 0 = .sl (f.map Fld.cells) [] false none ∧ T 1 = .sl (txtRows l) [] false none ∧ T 2 = fnV 144 ∧ T 15 = .sl (f.map Fld.cells) [] false none ∧ T 16 = .int .i64 f.length ∧ T 17 = .int .i64 (i : Nat) ∧ s' = s1 ∧ eqAll (f.drop i) (l.drop i) = eqAll f l, ?_, ?_⟩
    · exact ⟨f.length, 0, by simp, by simp, by simp [h0], by simp [h1], by simp [h2], by simp, by simp, by simp, rfl, by simp⟩
    · rintro n T L s' ⟨i, hi, rfl, h0, h1, h2, h15, h16, h17, rfl, hrun⟩
      by_cases hlt : i < f.length
      · have hlt' : i < l.length := by omega
        have hd1 : f.drop i = f[i] :: f.drop (i + 1) := List.drop_eq_getElem_cons hlt
        have hd2 : l.drop i = l[i] :: l.drop (i + 1) := List.drop_eq_getElem_cons hlt'
        have hli : l[i]? = some l[i] := List.getElem?_eq_getElem hlt'
        rw [hd1, hd2] at hrun
        simp only [eqAll] at hrun
        have hfc := f[i].len
        have hft : List.take 9 f[i].cells = f[i].cells := by rw [← hfc, List.take_length]
        simp [h0, h1, h2, h15, h16, h17, hlt, hrow, hli, hfc, hft, fnV]
        refine ⟨Fld.one f[i], ?_⟩
        refine (gv144' f[i] l[i] s').mono ?_
        rintro r s'' ⟨rfl, rfl⟩
        by_cases hk : fname f[i] = l[i]
        · rw [if_pos hk] at hrun
          simp [hk]
          exact ⟨f.length - (i + 1), by omega, i + 1, by omega, rfl, wrap_succ i (by omega), hrun⟩
        · rw [if_neg hk] at hrun
          simp [hk]
          exact hrun.symm
      · have : i = f.length := by omega
        subst this
        have hr : eqAll f l = true := by
          rw [← hrun, List.drop_eq_nil_of_le (Nat.le_refl _)]; simp [eqAll]
        simp [h16, h17, hr]
  · rw [if_neg hfl]
    simp [sc143, hlen]
    intro _ _
    have : ¬ ((f.length : Int) = l.length) := by omega
    simp [this])

end Go.Proofs.YthjjlmkooofdiaaGreatDoor

/-
  VlZe: may an element be: some answer, and nothing is turned.
-/
namespace Go.Proofs.YthjjlmkooofdiaaGreatDoor
open Go Go.VL

/-- what is wrong with an element at first sight. -/
def elemBad (n el : Int) (key : List UInt8) (has : Bool) : Bool :=
  decide (n ≠ 0) || decide (el ≤ 0) || decide (9 ≤ el) || decide (4096 < key.length) || (!has && decide (key ≠ []))

/-- are the fields those that an element of a kind has. -/
def sameN (f : List Fld) (names : List (List UInt8)) : Bool := if f.length = names.length then eqAll f names else false

def elemB (n : Int) (t : List UInt8) (f : List Fld) (el : Int) (key : List UInt8) (has : Bool) : Bool :=
  if elemBad n el key has then false else if (ownN el).2 && !sameN f (ownN el).1 then false else if el = 4 ∨ el = 7 ∨ el = 8 then decide (t = []) else isName t

theorem gv105 (k n : Int) (t : List UInt8) (l : List Val) (f : List Fld) (el : Int) (key : List UInt8) (has : Bool) : Gv Tryz.prog 105 [.agg (Val.mk k n t l f el key has).cells] (.bool (elemB n t f el key has)) := by
  have hown := gv142 el
  have he : Gv Tryz.prog 143 [.sl (f.map Fld.cells) [] false none, .sl (txtRows (ownN el).1) [] false none, fnV 144] (.bool (sameN f (ownN el).1)) := gv143 f (ownN el).1
  unfold elemB
  generalize (ownN el).1 = names at hown he ⊢
  generalize (ownN el).2 = just at hown ⊢
  generalize sameN f names = e at he ⊢
  refine fun s => ac105 (by simp) ?_
  have hv : (Val.mk k n t l f el key has).cells.length = 8 := Val.len _
  simp only [sc105]
  refine wpS_cut (fun T L s' => T 1 = .lp 1 1 0 ∧ L 1 = (1, (Val.mk k n t l f el key has).cells) ∧ s' = s) (by simp [Val.cells]) ?_
  rintro T L s0 ⟨h1, hL, rfl⟩
  refine wpS_cut (fun T L s' => T 1 = .lp 1 1 0 ∧ L 1 = (1, (Val.mk k n t l f el key has).cells) ∧ s' = s0 ∧ elemBad n el key has = false) ?_ ?_
  · refine wpS_cut (fun T L s' => T 1 = .lp 1 1 0 ∧ L 1 = (1, (Val.mk k n t l f el key has).cells) ∧ s' = s0 ∧ T 33 = .bool (elemBad n el key has)) ?_ ?_
    · simp only [wpS]
      refine wpRs_cut 9 (fun T L s' => T 1 = .lp 1 1 0 ∧ L 1 = (1, (Val.mk k n t l f el key has).cells) ∧ s' = s0 ∧ T 13 = .bool (decide (n ≠ 0) || decide (el ≤ 0))) ?_ ?_
      · by_cases q : n = 0 <;> simp [h1, hL, Val.cells, q]
      rintro T L s1 ⟨h1, hL, rfl, h13⟩
      simp only [List.drop]
      refine wpRs_cut 5 (fun T L s' => T 1 = .lp 1 1 0 ∧ L 1 = (1, (Val.mk k n t l f el key has).cells) ∧ s' = s1 ∧ T 18 = .bool (decide (n ≠ 0) || decide (el ≤ 0) || decide (9 ≤ el))) ?_ ?_
      · generalize (decide (n ≠ 0) || decide (el ≤ 0)) = q at h13 ⊢
        cases q <;> simp [h1, hL, h13, Val.cells]
      rintro T L s2 ⟨h1, hL, rfl, h18⟩
      simp only [List.drop]
      refine wpRs_cut 6 (fun T L s' => T 1 = .lp 1 1 0 ∧ L 1 = (1, (Val.mk k n t l f el key has).cells) ∧ s' = s2 ∧ T 24 = .bool (decide (n ≠ 0) || decide (el ≤ 0) || decide (9 ≤ el) || decide (4096 < key.length))) ?_ ?_
      · generalize (decide (n ≠ 0) || decide (el ≤ 0) || decide (9 ≤ el)) = q at h18 ⊢
        cases q <;> simp [h1, hL, h18, Val.cells]
        omega
      rintro T L s3 ⟨h1, hL, rfl, h24⟩
      simp only [List.drop]
      simp only [elemBad]
      generalize (decide (n ≠ 0) || decide (el ≤ 0) || decide (9 ≤ el) || decide (4096 < key.length)) = q at h24 ⊢
      cases q <;> cases has <;> simp [h1, hL, h24, Val.cells]
    · rintro T L s1 ⟨h1, hL, rfl, h33⟩
      cases hb : elemBad n el key has <;> rw [hb] at h33 <;> simp [h1, hL, h33]
  rintro T L s1 ⟨h1, hL, rfl, hb⟩
  rw [hb]
  refine wpS_cut (fun T L s' => T 1 = .lp 1 1 0 ∧ L 1 = (1, (Val.mk k n t l f el key has).cells) ∧ s' = s1 ∧ (just && !e) = false) ?_ ?_
  · refine wpS_cut (fun T L s' => T 1 = .lp 1 1 0 ∧ L 1 = (1, (Val.mk k n t l f el key has).cells) ∧ s' = s1 ∧ T 3 = .sl (txtRows names) [] false none ∧ T 4 = .bool just) ?_ ?_
    · simp [h1, hL, Val.cells]
      refine (hown s1).mono ?_
      rintro r s' ⟨rfl, rfl⟩
      simp []
    rintro T L s2 ⟨h1, hL, rfl, h3, h4⟩
    cases just
    · simp [h1, hL, h4]
    · simp [h1, hL, h3, h4, Val.cells, Fld.rows_eq]
      refine (he s2).mono ?_
      rintro r s' ⟨rfl, rfl⟩
      cases e <;> simp []
  rintro T L s2 ⟨h1, hL, rfl, hj⟩
  rw [hj]
  refine wpS_cut (fun T L s' => T 1 = .lp 1 1 0 ∧ L 1 = (1, (Val.mk k n t l f el key has).cells) ∧ s' = s2 ∧ ¬ (el = 4 ∨ el = 7 ∨ el = 8)) ?_ ?_
  · by_cases q4 : el = 4
    · simp [h1, hL, q4, Val.cells]
    by_cases q7 : el = 7
    · simp [h1, hL, q7, Val.cells]
    by_cases q8 : el = 8
    · simp [h1, hL, q8, Val.cells]
    simp [h1, hL, q4, q7, q8, Val.cells]
  rintro T L s3 ⟨h1, hL, rfl, hq⟩
  simp [h1, hL, hq, Val.cells]
  refine (gv104 t s3).mono ?_
  rintro r s' ⟨rfl, rfl⟩
  simp

end Go.Proofs.YthjjlmkooofdiaaGreatDoor

/-
  VlZf: may a value be, but for its parts: some answer, and nothing is turned.
-/
namespace Go.Proofs.YthjjlmkooofdiaaGreatDoor
open Go Go.VL

def inKinds (k : Int) (l : List Int) : Bool := decide (0 ≤ idxOf k 0 l)

/-- names that rise, behind one that came ahead. -/
def rise : Option (List UInt8) → List Fld → Bool
  | _, [] => true
  | p, f :: r => isName (fname f) && (match p with | none => true | some q => Op.bytesLess q (fname f)) && rise (some (fname f)) r

def ahead (f : List Fld) (i : Nat) : Option (List UInt8) := if i = 0 then none else (f[i - 1]?).map fname

def plainOk (k n : Int) (t : List UInt8) (l : List Val) (f : List Fld) (el : Int) (key : List UInt8) (has : Bool) : Bool :=
  decide (k ≤ 7) && decide (el = 0) && decide (key = []) && !has && decide (t.length ≤ 4096) && (decide (n = 0) || inKinds k [1, 7] || inKinds k [2] && decide (n = 1)) && (decide (t = []) || inKinds k [3, 7]) && (decide (l = []) || inKinds k [4]) && (decide (f = []) || inKinds k [5, 7])

theorem kinds_call (l : List Int) (k : Int) (b : Nat) (r : List V) (s : H) (hs : s.c b = some (.int .u8 k :: r)) : AC Tryz.prog 106 [.sl (kindRows l) [] true none, .ptr b 0] s fun v s' => v = .bool (inKinds k l) ∧ s' = s :=
  ac106' l k b r s hs true none

set_option maxHeartbeats 2000000 in
theorem plain_walk (k n : Int) (t : List UInt8) (l : List Val) (f : List Fld) (el : Int) (key : List UInt8) (has : Bool) (b : Nat) (s0 _s1 : H) (T : Nat → V) (L : Nat → Nat × List V) (h1 : T 1 = .ptr b 0) (h5 : T 5 = .fn (.func 106) [] [.ptr b 0])
    (hs : s0.c b = some (Val.mk k n t l f el key has).cells) (rs : List R) (hrs : SC.seq (.reg rs) .ret = (match sc84 with | .seq _ (.seq _ (.seq _ (.seq _ x))) => x | _ => .skip)) :
    wpS Tryz.prog (.seq (.reg rs) .ret) (bodyQ [.t 2] fun r s' => r = .bool (plainOk k n t l f el key has) ∧ s' = s0) T L s0 := by
  simp only [sc84, SC.seq.injEq, SC.reg.injEq, and_true] at hrs
  subst hrs
  have hc : ∀ q, AC Tryz.prog 106 [.sl (kindRows q) [] true none, .ptr b 0] s0 fun v s' => v = .bool (inKinds k q) ∧ s' = s0 := fun q => kinds_call q k b _ s0 (by rw [hs, Val.cells])
  simp only [plainOk]
  refine wpS_cut (fun T L s' => T 2 = .bool (plainOk k n t l f el key has) ∧ s' = s0) ?_ (by rintro T L s' ⟨h2, rfl⟩; simp [h2, plainOk])
  simp only [wpS, plainOk]
  refine wpRs_cut 8 (fun T L s' => T 1 = .ptr b 0 ∧ T 5 = .fn (.func 106) [] [.ptr b 0] ∧ s' = s0 ∧ T 48 = .bool (decide (k ≤ 7) && decide (el = 0))) ?_ ?_
  · by_cases q : k ≤ 7 <;> simp [h1, h5, hs, Val.cells, q]
  rintro T L s1 ⟨h1, h5, rfl, hb⟩
  generalize (decide (k ≤ 7) && decide (el = 0)) = q1 at hb ⊢
  simp only [List.drop]
  refine wpRs_cut 5 (fun T L s' => T 1 = .ptr b 0 ∧ T 5 = .fn (.func 106) [] [.ptr b 0] ∧ s' = s1 ∧ T 53 = .bool (q1 && decide (key = []))) ?_ ?_
  · cases q1 <;> simp [h1, h5, hs, hb, Val.cells]
  rintro T L s2 ⟨h1, h5, rfl, hb⟩
  generalize (q1 && decide (key = [])) = q2 at hb ⊢
  simp only [List.drop]
  refine wpRs_cut 5 (fun T L s' => T 1 = .ptr b 0 ∧ T 5 = .fn (.func 106) [] [.ptr b 0] ∧ s' = s2 ∧ T 58 = .bool (q2 && !has)) ?_ ?_
  · cases q2 <;> simp [h1, h5, hs, hb, Val.cells]
  rintro T L s3 ⟨h1, h5, rfl, hb⟩
  generalize (q2 && !has) = q3 at hb ⊢
  simp only [List.drop]
  refine wpRs_cut 6 (fun T L s' => T 1 = .ptr b 0 ∧ T 5 = .fn (.func 106) [] [.ptr b 0] ∧ s' = s3 ∧ T 64 = .bool (q3 && decide (t.length ≤ 4096))) ?_ ?_
  · cases q3 <;> simp [h1, h5, hs, hb, Val.cells]
    omega
  rintro T L s4 ⟨h1, h5, rfl, hb⟩
  generalize (q3 && decide (t.length ≤ 4096)) = q4 at hb ⊢
  simp only [List.drop]
  refine wpRs_cut 20 (fun T L s' => T 1 = .ptr b 0 ∧ T 5 = .fn (.func 106) [] [.ptr b 0] ∧ s' = s4 ∧ T 84 = .bool (q4 && (decide (n = 0) || inKinds k [1, 7] || inKinds k [2] && decide (n = 1)))) ?_ ?_
  · cases q4
    · simp [h1, h5, hb]
    by_cases qn : n = 0
    · simp [h1, h5, hs, hb, Val.cells, qn]
    simp [h1, h5, hs, hb, Val.cells, qn, chunks]
    refine (hc [1, 7]).mono ?_
    rintro r s' ⟨rfl, rfl⟩
    cases hi : inKinds k [1, 7]
    · simp []
      refine (hc [2]).mono ?_
      rintro r s' ⟨rfl, rfl⟩
      cases hj : inKinds k [2] <;> simp [hs, Val.cells]
    · simp []
  rintro T L s5 ⟨h1, h5, rfl, hb⟩
  generalize (q4 && (decide (n = 0) || inKinds k [1, 7] || inKinds k [2] && decide (n = 1))) = q5 at hb ⊢
  simp only [List.drop]
  refine wpRs_cut 10 (fun T L s' => T 1 = .ptr b 0 ∧ T 5 = .fn (.func 106) [] [.ptr b 0] ∧ s' = s5 ∧ T 94 = .bool (q5 && (decide (t = []) || inKinds k [3, 7]))) ?_ ?_
  · cases q5
    · simp [h1, h5, hb]
    by_cases qn : t = []
    · simp [h1, h5, hs, hb, Val.cells, qn]
    simp [h1, h5, hs, hb, Val.cells, qn, chunks]
    refine (hc [3, 7]).mono ?_
    rintro r s' ⟨rfl, rfl⟩
    simp []
  rintro T L s6 ⟨h1, h5, rfl, hb⟩
  generalize (q5 && (decide (t = []) || inKinds k [3, 7])) = q6 at hb ⊢
  simp only [List.drop]
  refine wpRs_cut 11 (fun T L s' => T 1 = .ptr b 0 ∧ T 5 = .fn (.func 106) [] [.ptr b 0] ∧ s' = s6 ∧ T 105 = .bool (q6 && (decide (l = []) || inKinds k [4]))) ?_ ?_
  · cases q6
    · simp [h1, h5, hb]
    by_cases qn : l = []
    · simp [h1, h5, hs, hb, Val.cells, qn, Val.rows_eq]
    simp [h1, h5, hs, hb, Val.cells, qn, chunks, Val.rows_eq]
    intro _
    refine (hc [4]).mono ?_
    rintro r s' ⟨rfl, rfl⟩
    simp []
  rintro T L s7 ⟨h1, h5, rfl, hb⟩
  generalize (q6 && (decide (l = []) || inKinds k [4])) = q7 at hb ⊢
  simp only [List.drop]
  cases q7
  · simp [hb]
  by_cases qn : f = []
  · simp [h1, hs, hb, Val.cells, qn, Fld.rows_eq]
  simp [h1, h5, hs, hb, Val.cells, qn, chunks, Fld.rows_eq]
  intro _
  refine (hc [5, 7]).mono ?_
  rintro r s' ⟨rfl, rfl⟩
  simp []

theorem name0 (f : Fld) : f.cells[0]? = some (.str (fname f)) := by cases f; simp [Fld.cells, fname]
theorem name_tail (f : Fld) : ∃ tl : List V, tl.length = 8 ∧ f.cells = .str (fname f) :: tl := by obtain ⟨n, v⟩ := f; exact ⟨v.cells, Val.len v, by simp [Fld.cells, fname]⟩

set_option maxHeartbeats 2000000 in
theorem gv84 (k n : Int) (t : List UInt8) (l : List Val) (f : List Fld) (el : Int) (key : List UInt8) (has : Bool) : Gv Tryz.prog 84 [.agg (Val.mk k n t l f el key has).cells] (.bool (if rise none f then (if k = 6 then elemB n t f el key has else plainOk k n t l f el key has) else false)) := by
  have he := gv105 k n t l f el key has
  generalize elemB n t f el key has = e at he ⊢
  intro s
  refine AC.weak (Q := fun r s' => ∃ b, s.c b = none ∧ r = .bool (if rise none f then (if k = 6 then e else plainOk k n t l f el key has) else false) ∧ s' = put1 s b (Val.mk k n t l f el key has).cells) ?_
    fun r s' ⟨b, h1, h2, h3⟩ => ⟨r, s, Le.refl _, by rw [h3]; exact put1Ule h1, h2, rfl⟩
  refine ac84 (by simp) ?_
  simp only [sc84]
  refine wpS_cut (fun T L s' => ∃ b, s.c b = none ∧ T 1 = .ptr b 0 ∧ s' = put1 s b (Val.mk k n t l f el key has).cells) ?_ ?_
  · simp [Val.cells]
    exact fun b h1 _ => ⟨b, h1, rfl, rfl⟩
  rintro T L s' ⟨b, hb, h1, rfl⟩
  have hcb : (put1 s b (Val.mk k n t l f el key has).cells).c b = some (Val.mk k n t l f el key has).cells := put1Uc _ _ _
  generalize hs0 : put1 s b (Val.mk k n t l f el key has).cells = s0 at hcb
  refine wpS_cut (fun T L s' => T 1 = .ptr b 0 ∧ s' = s0 ∧ rise none f = true) ?_ ?_
  · have hlen : (Fld.rows f).length = f.length := by rw [Fld.rows_eq]; simp
    refine wpS_cut (fun T L s' => T 1 = .ptr b 0 ∧ s' = s0 ∧ T 7 = .sl (Fld.rows f) [] false none ∧ T 8 = .int .i64 f.length ∧ T 9 = .int .i64 0 ∧ f.length < top) ?_ ?_
    · simp [h1, hcb, Val.cells, hlen]
    rintro T L s1 ⟨h1, rfl, h7, h8, h9, htop⟩
    refine wpS_block (wpS_loop (fun m T L s' => ∃ i, i ≤ f.length ∧ m = f.length - i ∧ T 1 = .ptr b 0 ∧ s' = s1 ∧ T 7 = .sl (Fld.rows f) [] false none ∧ T 8 = .int .i64 f.length ∧ T 9 = .int .i64 (i : Nat) ∧ rise (ahead f i) (f.drop i) = rise none f) ?_ ?_)
    · exact ⟨f.length, 0, by simp, by simp, h1, rfl, h7, h8, by simp [h9], by simp [ahead]⟩
    · rintro m T L s' ⟨i, hi, rfl, h1, rfl, h7, h8, h9, hrun⟩
      by_cases hlt : i < f.length
      · have hd : f.drop i = f[i] :: f.drop (i + 1) := List.drop_eq_getElem_cons hlt
        rw [hd] at hrun
        have hfc := f[i].len
        have hft : List.take 9 f[i].cells = f[i].cells := by rw [← hfc, List.take_length]
        have hrow : (Fld.rows f)[i]? = some f[i].cells := by rw [Fld.rows_eq]; simp [hlt]
        have hn0 := name0 f[i]
        have hz : f[i].cells.length ≠ 0 := by omega
        refine wpS_cut (fun T L s'' => T 10 = .bool true ∧ T 1 = .ptr b 0 ∧ s'' = s' ∧ T 7 = .sl (Fld.rows f) [] false none ∧ T 8 = .int .i64 f.length ∧ T 9 = .int .i64 (i : Nat)) (by simp [h1, h7, h8, h9, hlt]) ?_
        rintro T L s2 ⟨h10, h1, rfl, h7, h8, h9⟩
        refine wpS_cut (fun T L s'' => T 1 = .ptr b 0 ∧ s'' = s2 ∧ T 7 = .sl (Fld.rows f) [] false none ∧ T 8 = .int .i64 f.length ∧ T 9 = .int .i64 (i : Nat)) (by simp [h1, h7, h8, h9, h10]) ?_
        rintro T L s3 ⟨h1, rfl, h7, h8, h9⟩
        refine wpS_cut (fun T L s'' => T 1 = .ptr b 0 ∧ s'' = s3 ∧ T 7 = .sl (Fld.rows f) [] false none ∧ T 8 = .int .i64 f.length ∧ T 9 = .int .i64 (i : Nat) ∧ (isName (fname f[i]) && (match ahead f i with | none => true | some q => Op.bytesLess q (fname f[i]))) = true) ?_ ?_
        · refine wpS_block ?_
          refine wpS_cut (fun T L s' => T 1 = .ptr b 0 ∧ s' = s3 ∧ T 7 = .sl (Fld.rows f) [] false none ∧ T 8 = .int .i64 f.length ∧ T 9 = .int .i64 (i : Nat) ∧ T 3 = .int .i64 (i : Nat) ∧ ∃ u, T 4 = .lp 4 u 0 ∧ L 4 = (u, f[i].cells)) ?_ ?_
          · simp [h1, h7, h8, h9, hrow, hfc, hft]
            exact Fld.one f[i]
          rintro T L s4 ⟨h1, rfl, h7, h8, h9, h3, u, h4, hL⟩
          refine wpS_cut (fun T L s' => T 1 = .ptr b 0 ∧ s' = s4 ∧ T 7 = .sl (Fld.rows f) [] false none ∧ T 8 = .int .i64 f.length ∧ T 9 = .int .i64 (i : Nat) ∧ T 33 = .bool (!(isName (fname f[i]) && (match ahead f i with | none => true | some q => Op.bytesLess q (fname f[i]))))) ?_ ?_
          · refine wpS_reg ?_
            refine wpRs_cut 5 (fun T L s' => T 1 = .ptr b 0 ∧ s' = s4 ∧ T 7 = .sl (Fld.rows f) [] false none ∧ T 8 = .int .i64 f.length ∧ T 9 = .int .i64 (i : Nat) ∧ T 3 = .int .i64 (i : Nat) ∧ T 4 = .lp 4 u 0 ∧ L 4 = (u, f[i].cells) ∧ T 18 = .bool (!isName (fname f[i]))) ?_ ?_
            · simp [h1, h7, h8, h9, h3, h4, hL, hn0]
              refine (gv104 (fname f[i]) s4).mono ?_
              rintro r s' ⟨rfl, rfl⟩
              simp []
            rintro T L s5 ⟨h1, rfl, h7, h8, h9, h3, h4, hL, h18⟩
            cases hn : isName (fname f[i])
            · rw [hn] at h18
              simp [h1, h7, h8, h9, h18]
            · rw [hn] at h18
              by_cases hi0 : i = 0
              · subst hi0
                simp [h1, h7, h8, h9, h3, h18, ahead]
              · have hlt1 : i - 1 < f.length := by omega
                have hrow1 : (Fld.rows f)[i - 1]? = some f[i - 1].cells := by rw [Fld.rows_eq]; simp [hlt1]
                have hfc1 := f[i - 1].len
                have hn1 := name0 f[i - 1]
                have hw : IntKind.i64.wrap ((i : Int) - 1) = ((i - 1 : Nat) : Int) := by
                  have := wrap_small (i - 1) (by unfold top at *; omega)
                  rw [← this]; congr 1; omega
                have hpos : (0 : Int) < i := by omega
                have hpos' : 0 < i := by omega
                obtain ⟨tl, htl, hc1⟩ := name_tail f[i - 1]
                obtain ⟨tl', htl', hc2⟩ := name_tail f[i]
                rw [hc1] at hrow1
                rw [hc2] at hL
                simp [h1, h7, h8, h9, h3, h4, hL, h18, hpos', hw, hcb, Val.cells, hrow1, htl, ahead, hi0, hlt1]
          rintro T L s5 ⟨h1, rfl, h7, h8, h9, h33⟩
          cases hok : (isName (fname f[i]) && (match ahead f i with | none => true | some q => Op.bytesLess q (fname f[i])))
          · rw [hok] at h33
            simp only [rise, hok, Bool.false_and] at hrun
            simp [h33, ← hrun]
            exact ⟨b, hb, hs0.symm⟩
          · rw [hok] at h33
            simp [h1, h7, h8, h9, h33]
        rintro T L s4 ⟨h1, rfl, h7, h8, h9, hok⟩
        simp [h1, h7, h8, h9]
        refine ⟨f.length - (i + 1), by omega, i + 1, by omega, rfl, wrap_succ i (by omega), ?_⟩
        simp only [rise, hok, Bool.true_and] at hrun
        rw [← hrun]
        simp [ahead, hlt]
      · have : i = f.length := by omega
        subst this
        rw [List.drop_eq_nil_of_le (Nat.le_refl _)] at hrun
        simp only [rise] at hrun
        simp [h1, h8, h9, ← hrun]
  rintro T L s1 ⟨h1, rfl, hr⟩
  refine wpS_cut (fun T L s' => T 1 = .ptr b 0 ∧ s' = s1 ∧ k ≠ 6) ?_ ?_
  · by_cases hk : k = 6
    · subst hk
      simp [h1, hcb, Val.cells]
      refine (he s1).mono ?_
      rintro r s' ⟨rfl, rfl⟩
      simp [hr]
      exact ⟨b, hb, hs0.symm⟩
    · simp [h1, hcb, hk, Val.cells]
  rintro T L s2 ⟨h1, rfl, hk⟩
  refine wpS_cut (fun T L s' => T 1 = .ptr b 0 ∧ T 5 = .fn (.func 106) [] [.ptr b 0] ∧ s' = s2) (by simp [h1]) ?_
  rintro T L s3 ⟨h1, h5, rfl⟩
  refine wpS_mono _ ?_ (plain_walk k n t l f el key has b s3 s3 T L h1 h5 hcb _ rfl)
  intro ex T L s' h
  cases ex with
  | exit id => exact h
  | normal =>
    obtain ⟨vs, q1, q2, q3⟩ := h
    exact ⟨vs, q1, b, hb, by rw [q2, hr]; simp [hk], by rw [q3, hs0]⟩
  | ret =>
    obtain ⟨vs, q1, q2, q3⟩ := h
    exact ⟨vs, q1, b, hb, by rw [q2, hr]; simp [hk], by rw [q3, hs0]⟩

end Go.Proofs.YthjjlmkooofdiaaGreatDoor

/-
  VlZg: may a value be, with all its parts: some answer, and nothing is turned.
-/
namespace Go.Proofs.YthjjlmkooofdiaaGreatDoor
open Go Go.VL

def aloneB : Val → Bool
  | .mk k n t l f el key has => if rise none f then (if k = 6 then elemB n t f el key has else plainOk k n t l f el key has) else false
theorem gv84' (v : Val) : Gv Tryz.prog 84 [.agg v.cells] (.bool (aloneB v)) := by
  cases v; exact gv84 _ _ _ _ _ _ _ _

/-- a count and a flag, in blocks of their own. -/
def st (s : H) (bn bo : Nat) (n : Int) (o : Bool) : H := { s with c := fun b => if b = bn then some [.int .i64 n] else if b = bo then some [.bool o] else s.c b }

theorem st_n (s : H) (bn bo : Nat) (n m : Int) (o : Bool) : ({ st s bn bo n o with c := upd (st s bn bo n o).c bn (some [.int .i64 m]) } : H) = st s bn bo m o := by
  simp only [st]
  congr 1
  funext i
  simp only [upd]
  split <;> rfl
theorem st_o {s : H} {bn bo : Nat} {n : Int} {o p : Bool} (h : bn ≠ bo) : ({ st s bn bo n o with c := upd (st s bn bo n o).c bo (some [.bool p]) } : H) = st s bn bo n p := by
  simp only [st]
  congr 1
  funext i
  simp only [upd]
  split
  · rename_i e; subst e; rw [if_neg (fun e => h e.symm)]
  · rfl
theorem st_cn (s : H) (bn bo : Nat) (n : Int) (o : Bool) : (st s bn bo n o).c bn = some [.int .i64 n] := by simp [st]
theorem st_co {s : H} {bn bo : Nat} {n : Int} {o : Bool} (h : bn ≠ bo) : (st s bn bo n o).c bo = some [.bool o] := by
  simp only [st]; rw [if_neg (fun e => h e.symm)]; simp
theorem st_c {s : H} {bn bo b : Nat} {n : Int} {o : Bool} (h1 : b ≠ bn) (h2 : b ≠ bo) : (st s bn bo n o).c b = s.c b := by
  simp only [st]; rw [if_neg h1, if_neg h2]

/-- one value. -/
def stepB (v : Val) (deep n : Int) : Bool := aloneB v && decide (IntKind.i64.wrap (n + 1) ≤ 4096) && decide (deep ≤ 64)

theorem gv83 (v : Val) (deep n : Int) (o : Bool) (bn bo : Nat) (hne : bn ≠ bo) (s : H) :
    AC Tryz.prog 83 [.agg v.cells, .int .i64 deep, .ptr bn 0, .ptr bo 0] (st s bn bo n o) fun r s' => r = .bool (stepB v deep n) ∧ s' = st s bn bo (IntKind.i64.wrap (n + 1)) (stepB v deep n) := ac83 (by simp) (by
  have hl := v.len
  have ht : List.take 8 v.cells = v.cells := by rw [← hl, List.take_length]
  simp only [sc83]
  refine wpS_cut (fun T L s' => T 1 = .int .i64 deep ∧ T 2 = .ptr bn 0 ∧ T 3 = .ptr bo 0 ∧ T 4 = .lp 4 1 0 ∧ L 4 = (1, v.cells) ∧ s' = st s bn bo n o) (by simp [hl]) ?_
  rintro T L s0 ⟨h1, h2, h3, h4, hL, rfl⟩
  refine wpS_cut (fun T L s' => T 1 = .int .i64 deep ∧ T 2 = .ptr bn 0 ∧ T 3 = .ptr bo 0 ∧ T 4 = .lp 4 1 0 ∧ L 4 = (1, v.cells) ∧ s' = st s bn bo (IntKind.i64.wrap (n + 1)) o) ?_ ?_
  · simp [h1, h2, h3, h4, hL, st_cn, st_n]
  rintro T L s0 ⟨h1, h2, h3, h4, hL, rfl⟩
  generalize hm : IntKind.i64.wrap (n + 1) = m
  refine wpS_cut (fun T L s' => T 3 = .ptr bo 0 ∧ s' = st s bn bo m (stepB v deep n)) ?_ (by rintro T L s' ⟨h3, rfl⟩; simp [h3, st_co hne])
  simp only [stepB, hm]
  refine wpS_reg ?_
  refine wpRs_cut 3 (fun T L s' => T 1 = .int .i64 deep ∧ T 2 = .ptr bn 0 ∧ T 3 = .ptr bo 0 ∧ s' = st s bn bo m o ∧ T 11 = .bool (aloneB v)) ?_ ?_
  · simp [h1, h2, h3, h4, hL, hl, ht]
    refine (gv84' v _).mono ?_
    rintro r s' ⟨rfl, rfl⟩
    simp []
  rintro T L s1 ⟨h1, h2, h3, rfl, h11⟩
  simp only [List.drop]
  generalize aloneB v = q at h11 ⊢
  cases q
  · simp [h3, h11, st_co hne, st_o hne]
  · by_cases hm4 : m ≤ 4096 <;> simp [h1, h2, h3, h11, st_cn, hm4, st_co hne, st_o hne])

/-- on, if so. -/
def thenB (p : Bool × Int) (g : Int → Bool × Int) : Bool × Int := match p with | (true, n) => g n | (false, n) => (false, n)

mutual
def walkV : Val → Int → Int → Bool × Int
  | .mk k n s l f el key has, deep, m =>
    match stepB (.mk k n s l f el key has) deep m with
    | true => thenB (walkL l (IntKind.i64.wrap (deep + 1)) (IntKind.i64.wrap (m + 1))) (walkF f (IntKind.i64.wrap (deep + 1)))
    | false => (false, IntKind.i64.wrap (m + 1))
def walkL : List Val → Int → Int → Bool × Int
  | [], _, m => (true, m)
  | v :: l, deep, m => thenB (walkV v deep m) (walkL l deep)
def walkG : Fld → Int → Int → Bool × Int
  | .mk _ v, deep, m => walkV v deep m
def walkF : List Fld → Int → Int → Bool × Int
  | [], _, m => (true, m)
  | v :: l, deep, m => thenB (walkG v deep m) (walkF l deep)
end

def fval : Fld → Val
  | .mk _ v => v
theorem walkG_eq (f : Fld) (deep m : Int) : walkG f deep m = walkV (fval f) deep m := by cases f; simp only [walkG, fval]

def doV (bn bo : Nat) : V := .fn (.func 83) [] [.ptr bn 0, .ptr bo 0]
def walkFn (bd bw : Nat) : V := .fn (.func 103) [] [.ptr bd 0, .ptr bw 0]

/-- the blocks of a walk through a value. -/
structure Wk (s : H) (bn bo bd bw : Nat) : Prop where
  no : bn ≠ bo
  dn : bd ≠ bn
  d0 : bd ≠ bo
  wn : bw ≠ bn
  w0 : bw ≠ bo
  d : s.c bd = some [doV bn bo]
  w : s.c bw = some [walkFn bd bw]

def W103 (v : Val) : Prop := ∀ (deep n : Int) (bn bo bd bw : Nat) (s : H), Wk s bn bo bd bw →
  AC Tryz.prog 103 [.agg v.cells, .int .i64 deep, .ptr bd 0, .ptr bw 0] (st s bn bo n true) fun r s' => r = .bool (walkV v deep n).1 ∧ s' = st s bn bo (walkV v deep n).2 (walkV v deep n).1

theorem wk103 (k n : Int) (t : List UInt8) (l : List Val) (f : List Fld) (el : Int) (key : List UInt8) (has : Bool) (ihl : ∀ x ∈ l, W103 x) (ihf : ∀ x ∈ f, W103 (fval x)) : W103 (.mk k n t l f el key has) := by
  intro deep m bn bo bd bw s hw
  refine ac103 (by simp) ?_
  have hd : ∀ m o, (st s bn bo m o).c bd = some [doV bn bo] := fun m o => by rw [st_c hw.dn hw.d0, hw.d]
  have hwk : ∀ m o, (st s bn bo m o).c bw = some [walkFn bd bw] := fun m o => by rw [st_c hw.wn hw.w0, hw.w]
  generalize hv : Val.mk k n t l f el key has = v
  have hl := v.len
  have ht : List.take 8 v.cells = v.cells := by rw [← hl, List.take_length]
  simp only [sc103]
  refine wpS_cut (fun T L s' => T 1 = .int .i64 deep ∧ T 2 = .ptr bd 0 ∧ T 3 = .ptr bw 0 ∧ T 4 = .lp 4 1 0 ∧ L 4 = (1, v.cells) ∧ s' = st s bn bo m true) (by simp [hl]) ?_
  rintro T L s0 ⟨h1, h2, h3, h4, hL, rfl⟩
  have hcv : v.cells = (Val.mk k n t l f el key has).cells := by rw [hv]
  have hwv : walkV v deep m = (match stepB v deep m with
      | true => thenB (walkL l (IntKind.i64.wrap (deep + 1)) (IntKind.i64.wrap (m + 1))) (walkF f (IntKind.i64.wrap (deep + 1)))
      | false => (false, IntKind.i64.wrap (m + 1))) := by rw [← hv]; simp only [walkV]
  generalize walkV v deep m = res at hwv ⊢
  generalize hm1 : IntKind.i64.wrap (m + 1) = m1 at hwv
  generalize hd1 : IntKind.i64.wrap (deep + 1) = d1 at hwv
  refine wpS_cut (fun T L s' => T 1 = .int .i64 deep ∧ T 2 = .ptr bd 0 ∧ T 3 = .ptr bw 0 ∧ T 4 = .lp 4 1 0 ∧ L 4 = (1, v.cells) ∧ s' = st s bn bo m1 true ∧ res = thenB (walkL l d1 m1) (walkF f d1)) ?_ ?_
  · have h83 := gv83 v deep m true bn bo hw.no s
    rw [hm1] at h83
    simp [h1, h2, h3, h4, hL, hd, doV, hl, ht]
    refine h83.mono ?_
    rintro r s' ⟨rfl, rfl⟩
    cases hq : stepB v deep m
    · rw [hq] at hwv
      simp at hwv
      simp [hwv]
    · rw [hq] at hwv
      simp at hwv
      simp [hwv]
  rintro T L s0 ⟨h1, h2, h3, h4, hL, rfl, hwv⟩
  refine wpS_cut (fun T L s' => T 1 = .int .i64 deep ∧ T 2 = .ptr bd 0 ∧ T 3 = .ptr bw 0 ∧ T 4 = .lp 4 1 0 ∧ L 4 = (1, v.cells) ∧ ∃ m2, s' = st s bn bo m2 true ∧ res = walkF f d1 m2) ?_ ?_
  · have hlen : (Val.rows l).length = l.length := by rw [Val.rows_eq]; simp
    refine wpS_cut (fun T L s' => T 1 = .int .i64 deep ∧ T 2 = .ptr bd 0 ∧ T 3 = .ptr bw 0 ∧ T 4 = .lp 4 1 0 ∧ L 4 = (1, v.cells) ∧ s' = st s bn bo m1 true ∧ T 17 = .sl (Val.rows l) [] false none ∧ T 18 = .int .i64 l.length ∧ T 19 = .int .i64 0 ∧ l.length < top) ?_ ?_
    · simp [h1, h2, h3, h4, hL, hcv, Val.cells, hlen]
    rintro T L s1 ⟨h1, h2, h3, h4, hL, rfl, h17, h18, h19, htop⟩
    refine wpS_block (wpS_loop (fun c T L s' => ∃ i m2, i ≤ l.length ∧ c = l.length - i ∧ T 1 = .int .i64 deep ∧ T 2 = .ptr bd 0 ∧ T 3 = .ptr bw 0 ∧ T 4 = .lp 4 1 0 ∧ L 4 = (1, v.cells) ∧ s' = st s bn bo m2 true ∧ T 17 = .sl (Val.rows l) [] false none ∧ T 18 = .int .i64 l.length ∧ T 19 = .int .i64 (i : Nat) ∧
      res = thenB (walkL (l.drop i) d1 m2) (walkF f d1)) ?_ ?_)
    · exact ⟨l.length, 0, m1, by simp, by simp, h1, h2, h3, h4, hL, rfl, h17, h18, by simp [h19], by simpa using hwv⟩
    · rintro c T L s' ⟨i, m2, hi, rfl, h1, h2, h3, h4, hL, rfl, h17, h18, h19, hrun⟩
      by_cases hlt : i < l.length
      · have hdr : l.drop i = l[i] :: l.drop (i + 1) := List.drop_eq_getElem_cons hlt
        rw [hdr] at hrun
        simp only [walkL] at hrun
        have hfc := l[i].len
        have hft : List.take 8 l[i].cells = l[i].cells := by rw [← hfc, List.take_length]
        have hrow : (Val.rows l)[i]? = some l[i].cells := by rw [Val.rows_eq]; simp [hlt]
        have ih := ihl l[i] (List.getElem_mem _) d1 m2 bn bo bd bw s hw
        obtain ⟨⟨q, m3⟩, hqe⟩ : ∃ q, walkV l[i] d1 m2 = q := ⟨_, rfl⟩
        rw [hqe] at hrun ih
        simp [h1, h2, h3, h4, hL, h17, h18, h19, hlt, hrow, hfc, hft, hwk, walkFn, hd1]
        refine ⟨Val.one l[i], ?_⟩
        refine ih.mono ?_
        rintro r s' ⟨rfl, rfl⟩
        cases q
        · simp [thenB] at hrun
          simp [hrun]
        · simp [thenB] at hrun
          simp []
          refine ⟨l.length - (i + 1), by omega, i + 1, by omega, rfl, m3, rfl, wrap_succ i (by omega), hrun⟩
      · have : i = l.length := by omega
        subst this
        rw [List.drop_eq_nil_of_le (Nat.le_refl _)] at hrun
        simp only [walkL, thenB] at hrun
        simp [h1, h2, h3, h4, hL, h18, h19]
        exact ⟨m2, rfl, hrun⟩
  rintro T L s0 ⟨h1, h2, h3, h4, hL, m1, rfl, hwv⟩
  refine wpS_cut (fun T L s' => ∃ m2, s' = st s bn bo m2 true ∧ res = (true, m2)) ?_ (by rintro T L s' ⟨m2, rfl, rfl⟩; simp)
  · have hlen : (Fld.rows f).length = f.length := by rw [Fld.rows_eq]; simp
    refine wpS_cut (fun T L s' => T 1 = .int .i64 deep ∧ T 2 = .ptr bd 0 ∧ T 3 = .ptr bw 0 ∧ T 4 = .lp 4 1 0 ∧ L 4 = (1, v.cells) ∧ s' = st s bn bo m1 true ∧ T 31 = .sl (Fld.rows f) [] false none ∧ T 32 = .int .i64 f.length ∧ T 33 = .int .i64 0 ∧ f.length < top) ?_ ?_
    · simp [h1, h2, h3, h4, hL, hcv, Val.cells, hlen]
    rintro T L s1 ⟨h1, h2, h3, h4, hL, rfl, h31, h32, h33, htop⟩
    refine wpS_block (wpS_loop (fun c T L s' => ∃ i m2, i ≤ f.length ∧ c = f.length - i ∧ T 1 = .int .i64 deep ∧ T 2 = .ptr bd 0 ∧ T 3 = .ptr bw 0 ∧ T 4 = .lp 4 1 0 ∧ L 4 = (1, v.cells) ∧ s' = st s bn bo m2 true ∧ T 31 = .sl (Fld.rows f) [] false none ∧ T 32 = .int .i64 f.length ∧ T 33 = .int .i64 (i : Nat) ∧
      res = walkF (f.drop i) d1 m2) ?_ ?_)
    · exact ⟨f.length, 0, m1, by simp, by simp, h1, h2, h3, h4, hL, rfl, h31, h32, by simp [h33], by simpa using hwv⟩
    · rintro c T L s' ⟨i, m2, hi, rfl, h1, h2, h3, h4, hL, rfl, h31, h32, h33, hrun⟩
      by_cases hlt : i < f.length
      · have hdr : f.drop i = f[i] :: f.drop (i + 1) := List.drop_eq_getElem_cons hlt
        rw [hdr] at hrun
        simp only [walkF, walkG_eq] at hrun
        have hfc := f[i].len
        have hft : List.take 9 f[i].cells = f[i].cells := by rw [← hfc, List.take_length]
        have hft' : List.take 8 f[i].cells.tail = (fval f[i]).cells := by
          cases f[i] with
          | mk a v => simp only [Fld.cells, List.tail_cons, fval]; rw [← Val.len v, List.take_length]
        have hrow : (Fld.rows f)[i]? = some f[i].cells := by rw [Fld.rows_eq]; simp [hlt]
        have ih := ihf f[i] (List.getElem_mem _) d1 m2 bn bo bd bw s hw
        obtain ⟨⟨q, m3⟩, hqe⟩ : ∃ q, walkV (fval f[i]) d1 m2 = q := ⟨_, rfl⟩
        rw [hqe] at hrun ih
        simp [h1, h2, h3, h4, hL, h31, h32, h33, hlt, hrow, hfc, hft, hft', hwk, walkFn, hd1]
        refine ⟨Fld.one f[i], ?_⟩
        refine ih.mono ?_
        rintro r s' ⟨rfl, rfl⟩
        cases q
        · simp [thenB] at hrun
          simp [hrun]
        · simp [thenB] at hrun
          simp []
          refine ⟨f.length - (i + 1), by omega, i + 1, by omega, rfl, m3, rfl, wrap_succ i (by omega), hrun⟩
      · have : i = f.length := by omega
        subst this
        rw [List.drop_eq_nil_of_le (Nat.le_refl _)] at hrun
        simp only [walkF] at hrun
        simp [h32, h33]
        exact ⟨m2, rfl, hrun⟩


end Go.Proofs.YthjjlmkooofdiaaGreatDoor

/-
  VlZh: value.Check and (machine).done.
-/
namespace Go.Proofs.YthjjlmkooofdiaaGreatDoor
open Go Go.VL

mutual
theorem walk_val : ∀ v : Val, W103 v
  | .mk k n s l f el key has => wk103 k n s l f el key has (walk_vals l) (walk_flds f)
theorem walk_vals : ∀ l : List Val, ∀ x ∈ l, W103 x
  | [], x, h => by cases h
  | v :: l, x, h => by
    rcases List.mem_cons.1 h with e | h
    · rw [e]; exact walk_val v
    · exact walk_vals l x h
theorem walk_fld : ∀ v : Fld, W103 (fval v)
  | .mk name v => by simp only [fval]; exact walk_val v
theorem walk_flds : ∀ l : List Fld, ∀ x ∈ l, W103 (fval x)
  | [], x, h => by cases h
  | v :: l, x, h => by
    rcases List.mem_cons.1 h with e | h
    · rw [e]; exact walk_fld v
    · exact walk_flds l x h
end

/-- may a value be. -/
def checkB (v : Val) : Bool := (walkV v 1 0).1

theorem put1Ule' {s s0 : H} {b : Nat} {cs : List V} (hle : H.le s s0) (h : s.c b = none) : H.le s (put1 s0 b cs) :=
  ⟨fun b' cs' h' => by
    simp only [put1, upd]
    split
    · rename_i e; subst e; rw [h] at h'; cases h'
    · exact hle.1 b' cs' h', hle.2.1, hle.2.2⟩
theorem st_le {s s0 : H} {bn bo : Nat} {n : Int} {o : Bool} (hle : H.le s s0) (h1 : s.c bn = none) (h2 : s.c bo = none) : H.le s (st s0 bn bo n o) :=
  ⟨fun b' cs' h' => by
    simp only [st]
    split
    · rename_i e; subst e; rw [h1] at h'; cases h'
    · split
      · rename_i e; subst e; rw [h2] at h'; cases h'
      · exact hle.1 b' cs' h', hle.2.1, hle.2.2⟩

theorem st_self {s : H} {bn bo : Nat} {n : Int} {o : Bool} (h1 : s.c bn = some [.int .i64 n]) (h2 : s.c bo = some [.bool o]) : st s bn bo n o = s := by
  simp only [st]
  congr 1
  funext i
  split
  · rename_i e; rw [e, h1]
  · split
    · rename_i e; rw [e, h2]
    · rfl

theorem put1Uo {s : H} {b b' : Nat} {cs : List V} (h : b' ≠ b) : (put1 s b cs).c b' = s.c b' := by simp [put1, h]

theorem gv82 (v : Val) (bn bo : Nat) (hne : bn ≠ bo) (s : H) (hn : s.c bn = some [.int .i64 0]) (ho : s.c bo = some [.bool true]) :
    AC Tryz.prog 82 [.agg v.cells, doV bn bo] s fun _ s' => ∃ bd bw, s.c bd = none ∧ s.c bw = none ∧ bd ≠ bn ∧ bd ≠ bo ∧ bw ≠ bn ∧ bw ≠ bo ∧ s' = st (put1 (put1 s bd [doV bn bo]) bw [walkFn bd bw]) bn bo (walkV v 1 0).2 (checkB v) := ac82 (by simp) (by
  have hl := v.len
  have ht : List.take 8 v.cells = v.cells := by rw [← hl, List.take_length]
  simp only [sc82]
  refine wpS_cut (fun T L s' => ∃ bd, s.c bd = none ∧ T 2 = .lp 2 1 0 ∧ L 2 = (1, v.cells) ∧ T 3 = .ptr bd 0 ∧ s' = put1 s bd [doV bn bo]) ?_ ?_
  · simp [hl, doV]
    exact fun b h1 _ => ⟨b, h1, rfl, rfl⟩
  rintro T L s' ⟨bd, hbd, h2, hL, h3, rfl⟩
  refine wpS_cut (fun T L s' => ∃ bw, (put1 s bd [doV bn bo]).c bw = none ∧ T 2 = .lp 2 1 0 ∧ L 2 = (1, v.cells) ∧ T 3 = .ptr bd 0 ∧ T 4 = .ptr bw 0 ∧ s' = put1 (put1 s bd [doV bn bo]) bw [.nilfn]) ?_ ?_
  · simp [h2, h3, hL]
    exact fun b h1 _ => ⟨b, h1, rfl, rfl⟩
  rintro T L s' ⟨bw, hbw, h2, hL, h3, h4, rfl⟩
  refine wpS_cut (fun T L s' => T 2 = .lp 2 1 0 ∧ L 2 = (1, v.cells) ∧ T 4 = .ptr bw 0 ∧ s' = put1 (put1 s bd [doV bn bo]) bw [walkFn bd bw]) ?_ ?_
  · simp [h2, h3, h4, hL, put1Uc, walkFn]
    exact put1Uput1 _ _ _ _
  rintro T L s' ⟨h2, hL, h4, rfl⟩
  have hbdw : bw ≠ bd := by
    rintro rfl; rw [put1Uc] at hbw; cases hbw
  have hbw' : s.c bw = none := by rwa [put1Uo hbdw] at hbw
  have e1 : bd ≠ bn := by rintro rfl; rw [hn] at hbd; cases hbd
  have e2 : bd ≠ bo := by rintro rfl; rw [ho] at hbd; cases hbd
  have e3 : bw ≠ bn := by rintro rfl; rw [hn] at hbw'; cases hbw'
  have e4 : bw ≠ bo := by rintro rfl; rw [ho] at hbw'; cases hbw'
  generalize hs1 : put1 (put1 s bd [doV bn bo]) bw [walkFn bd bw] = s1
  have c1 : s1.c bn = some [.int .i64 0] := by rw [← hs1, put1Uo e3.symm, put1Uo e1.symm, hn]
  have c2 : s1.c bo = some [.bool true] := by rw [← hs1, put1Uo e4.symm, put1Uo e2.symm, ho]
  have c3 : s1.c bd = some [doV bn bo] := by rw [← hs1, put1Uo hbdw.symm, put1Uc]
  have c4 : s1.c bw = some [walkFn bd bw] := by rw [← hs1, put1Uc]
  have hw := walk_val v 1 0 bn bo bd bw s1 ⟨hne, e1, e2, e3, e4, c3, c4⟩
  rw [st_self c1 c2] at hw
  simp [h2, hL, h4, c4, walkFn, hl, ht]
  refine hw.mono ?_
  rintro r s' ⟨rfl, rfl⟩
  exact ⟨bd, hbd, bw, hbw', e1, e2, e3, e4, by rw [← hs1]; rfl⟩)

/-- value.Check: an answer, and nothing is turned. -/
theorem gv71 (v : Val) : Gv Tryz.prog 71 [.agg v.cells] (.bool (checkB v)) := by
  intro s
  refine AC.weak (Q := fun r s' => r = .bool (checkB v) ∧ H.le s s') ?_ fun r s' ⟨h1, h2⟩ => ⟨r, s, Le.refl _, h2, h1, rfl⟩
  refine ac71 (by simp) ?_
  have hl := v.len
  have ht : List.take 8 v.cells = v.cells := by rw [← hl, List.take_length]
  simp only [sc71]
  refine wpS_cut (fun T L s' => T 1 = .lp 1 1 0 ∧ L 1 = (1, v.cells) ∧ s' = s) (by simp [hl]) ?_
  rintro T L s0 ⟨h1, hL, rfl⟩
  refine wpS_cut (fun T L s' => ∃ bn bo, s0.c bn = none ∧ s0.c bo = none ∧ bn ≠ bo ∧ T 1 = .lp 1 1 0 ∧ L 1 = (1, v.cells) ∧ T 3 = .ptr bn 0 ∧ T 4 = .ptr bo 0 ∧ s' = put1 (put1 s0 bn [.int .i64 0]) bo [.bool true]) ?_ ?_
  · simp only [wpS]
    refine wpRs_cut 2 (fun T L s' => ∃ bn bo, s0.c bn = none ∧ s0.c bo = none ∧ bn ≠ bo ∧ T 1 = .lp 1 1 0 ∧ L 1 = (1, v.cells) ∧ T 3 = .ptr bn 0 ∧ T 4 = .ptr bo 0 ∧ s' = put1 (put1 s0 bn [.int .i64 0]) bo [.bool false]) ?_ ?_
    · simp [h1, hL]
      intro bn q1 q2 bo
      by_cases e : bo = bn
      · simp [e]
      · simp [e]
        intro q3 q4
        exact ⟨bn, q1, bo, q3, fun h => e h.symm, rfl, rfl, rfl⟩
    rintro T L s' ⟨bn, bo, q1, q2, q3, h1, hL, h3, h4, rfl⟩
    have d1 : (put1 (put1 s0 bn [.int .i64 0]) bo [.bool false]).c bn = some [.int .i64 0] := by rw [put1Uo q3, put1Uc]
    have d2 : ({ put1 (put1 s0 bn [.int .i64 0]) bo [.bool false] with c := upd (put1 (put1 s0 bn [.int .i64 0]) bo [.bool false]).c bn (some [.int .i64 0]) } : H) = put1 (put1 s0 bn [.int .i64 0]) bo [.bool false] := by
      simp only [put1]
      congr 1
      funext i
      simp only [upd]
      split
      · rename_i e; rw [e, if_neg q3]
      · rfl
    simp only [List.drop]
    refine wpRs_cut 1 (fun T L s' => T 1 = .lp 1 1 0 ∧ L 1 = (1, v.cells) ∧ T 3 = .ptr bn 0 ∧ T 4 = .ptr bo 0 ∧ s' = put1 (put1 s0 bn [.int .i64 0]) bo [.bool false]) ?_ ?_
    · simp [h1, hL, h3, h4, d1]
      exact d2
    rintro T L s' ⟨h1, hL, h3, h4, rfl⟩
    simp [h1, hL, h3, h4, put1Uc]
    exact ⟨bn, q1, bo, q2, q3, rfl, rfl, put1Uput1 _ _ _ _⟩
  rintro T L s' ⟨bn, bo, q1, q2, q3, h1, hL, h3, h4, rfl⟩
  have c1 : (put1 (put1 s0 bn [.int .i64 0]) bo [.bool true]).c bn = some [.int .i64 0] := by rw [put1Uo q3, put1Uc]
  have c2 : (put1 (put1 s0 bn [.int .i64 0]) bo [.bool true]).c bo = some [.bool true] := put1Uc _ _ _
  generalize hs1 : put1 (put1 s0 bn [.int .i64 0]) bo [.bool true] = s1 at c1 c2 ⊢
  refine wpS_cut (fun T L s' => T 4 = .ptr bo 0 ∧ s'.c bo = some [.bool (checkB v)] ∧ H.le s0 s') ?_ ?_
  · simp [h1, hL, h3, h4, hl, ht]
    refine (gv82 v bn bo q3 s1 c1 c2).mono ?_
    rintro r s' ⟨bd, bw, r1, r2, r3, r4, r5, r6, rfl⟩
    simp [st_co q3]
    refine st_le (put1Ule' (put1Ule' ?_ ?_) ?_) q1 q2
    · rw [← hs1]; exact put1Ule' (put1Ule q1) q2
    · rw [← hs1, put1Uo r4, put1Uo r3] at r1; exact r1
    · rw [← hs1, put1Uo r6, put1Uo r5] at r2; exact r2
  rintro T L s' ⟨h4, hb, hle⟩
  simp [h4, hb, hle]

end Go.Proofs.YthjjlmkooofdiaaGreatDoor

/-
  VlZi: (machine).done.
-/
namespace Go.Proofs.YthjjlmkooofdiaaGreatDoor
open Go Go.VL

/-- a machine whose evaluation has failed. -/
def thrown (mc v8 : List V) : List V := mc.take 4 ++ (.int .u8 1 :: v8 ++ [.str [], .int .i64 0])
def great : List UInt8 := [103, 114, 101, 97, 116]
def fuelT : List UInt8 := [102, 117, 101, 108]

theorem gv63 (b : Nat) (mc : List V) (v : Val) (s : H) (hs : s.c b = some mc) (hm : mc.length = 15) :
    AC Tryz.prog 63 [.ptr b 0, .agg v.cells] s fun r s' => if checkB v = true then r = .tup [.agg v.cells, .bool true] ∧ s' = s else r = .tup [.agg zVal, .bool false] ∧ s' = put1 s b (thrown mc (textCells great)) := ac63 (by simp) (by
  have hl := v.len
  have ht : List.take 8 v.cells = v.cells := by rw [← hl, List.take_length]
  simp only [sc63]
  refine wpS_cut (fun T L s' => T 0 = .ptr b 0 ∧ T 3 = .lp 3 1 0 ∧ L 3 = (1, v.cells) ∧ T 4 = .lp 4 1 0 ∧ L 4 = (1, zVal) ∧ s' = s) (by simp [hl, zVal]) ?_
  rintro T L s0 ⟨h0, h3, hL3, h4, hL4, rfl⟩
  refine wpS_cut (fun T L s' => T 0 = .ptr b 0 ∧ T 3 = .lp 3 1 0 ∧ L 3 = (1, v.cells) ∧ T 4 = .lp 4 1 0 ∧ L 4 = (1, zVal) ∧ s' = s0 ∧ checkB v = true) ?_ ?_
  · simp [h0, h3, hL3, h4, hL4, hl, ht]
    refine (gv71 v s0).mono ?_
    rintro r s' ⟨rfl, rfl⟩
    cases hc : checkB v
    · simp []
      refine (gv26 b mc _ s' hs hm).mono ?_
      rintro r s'' ⟨rfl, rfl⟩
      simp [zVal, thrown, great]
    · simp []
  rintro T L s1 ⟨h0, h3, hL3, h4, hL4, rfl, hc⟩
  simp [h3, hL3, h4, hL4, hc, hl, ht, zVal]
  exact Val.one v)

end Go.Proofs.YthjjlmkooofdiaaGreatDoor
