/-
  a part of the proof: the texts VlZo, VlZp, VlZq, VlZr, VlZs, VlZt, VlZu, joined: helper laws; none of them is the statement.
-/
import Derived.Test.YthjjlmkooofdiaaGreatDoorVl11

/-
  VlZo: operations on numbers; the table of operations; finding one.
-/
namespace Go.Proofs.YthjjlmkooofdiaaGreatDoor
open Go Go.VL

def vkind : Val → Int
  | .mk k _ _ _ _ _ _ _ => k
def vnum : Val → Int
  | .mk _ n _ _ _ _ _ _ => n
def vtext : Val → List UInt8
  | .mk _ _ s _ _ _ _ _ => s
def vlist : Val → List Val
  | .mk _ _ _ l _ _ _ _ => l
def vflds : Val → List Fld
  | .mk _ _ _ _ f _ _ _ => f

theorem gv168 (v : Val) (k : Int) : Gv Tryz.prog 168 [.agg v.cells, .int .u8 k] (.bool (decide (vkind v = k))) := fun s => ac168 (by simp) (by
  cases v
  simp [sc168, Val.cells, vkind]
  exact decide_eq_decide.2 Iff.rfl)

def kindsEq : List Val → List Int → Bool
  | v :: l, k :: ks => if vkind v = k then kindsEq l ks else false
  | _, _ => true

theorem gv167 (l : List Val) (ks : List Int) : Gv Tryz.prog 167 [.sl (Val.rows l) [] false none, .sl (kindRows ks) [] false none, fnV 168] (.bool (if l.length = ks.length then kindsEq l ks else false)) := fun s => ac167 (by simp) (by
  have hlen : (kindRows ks).length = ks.length := by simp [kindRows]
  have hll : (Val.rows l).length = l.length := by rw [Val.rows_eq]; simp
  have hrow : ∀ i : Nat, (kindRows ks)[i]? = (ks[i]?).map fun g => [V.int .u8 g] := by intro i; simp [kindRows]
  by_cases hfl : l.length = ks.length
  · rw [if_pos hfl]
    simp only [sc167]
    refine wpS_cut (fun T L s' => T 0 = .sl (Val.rows l) [] false none ∧ T 1 = .sl (kindRows ks) [] false none ∧ T 2 = fnV 168 ∧ s' = s) (by simp) ?_
    rintro T L s0 ⟨h0, h1, h2, rfl⟩
    refine wpS_cut (fun T L s' => T 0 = .sl (Val.rows l) [] false none ∧ T 1 = .sl (kindRows ks) [] false none ∧ T 2 = fnV 168 ∧ s' = s0 ∧ l.length < top) ?_ ?_
    · simp [h0, h1, h2, hlen, hll, hfl]
      try (intro h _; exact h)
    rintro T L s1 ⟨h0, h1, h2, rfl, htop⟩
    refine wpS_cut (fun T L s' => T 6 = .bool false ∧ False ∨ s' = s1 ∧ kindsEq l ks = true) ?_ (by
      rintro T L s' (⟨_, h⟩ | ⟨rfl, h⟩)
      · exact h.elim
      · simp [h])
    refine wpS_cut (fun T L s' => T 1 = .sl (kindRows ks) [] false none ∧ T 2 = fnV 168 ∧ T 15 = .sl (Val.rows l) [] false none ∧ T 16 = .int .i64 l.length ∧ T 17 = .int .i64 0 ∧ s' = s1) (by simp [h0, h1, h2, hll]) ?_
    rintro T L s2 ⟨h1, h2, h15, h16, h17, rfl⟩
    refine wpS_block (wpS_loop (fun n T L s' => ∃ i, i ≤ l.length ∧ n = l.length - i ∧ T 1 = .sl (kindRows ks) [] false none ∧ T 2 = fnV 168 ∧ T 15 = .sl (Val.rows l) [] false none ∧ T 16 = .int .i64 l.length ∧ T 17 = .int .i64 (i : Nat) ∧ s' = s2 ∧ kindsEq (l.drop i) (ks.drop i) = kindsEq l ks) ?_ ?_)
    · exact ⟨l.length, 0, by simp, by simp, h1, h2, h15, h16, by simp [h17], rfl, by simp⟩
    · rintro n T L s' ⟨i, hi, rfl, h1, h2, h15, h16, h17, rfl, hrun⟩
      by_cases hlt : i < l.length
      · have hlt' : i < ks.length := by omega
        have hd1 : l.drop i = l[i] :: l.drop (i + 1) := List.drop_eq_getElem_cons hlt
        have hd2 : ks.drop i = ks[i] :: ks.drop (i + 1) := List.drop_eq_getElem_cons hlt'
        have hli : ks[i]? = some ks[i] := List.getElem?_eq_getElem hlt'
        have hlv : (Val.rows l)[i]? = some l[i].cells := by rw [Val.rows_eq]; simp [hlt]
        rw [hd1, hd2] at hrun
        simp only [kindsEq] at hrun
        have hfc := l[i].len
        have hft : List.take 8 l[i].cells = l[i].cells := by rw [← hfc, List.take_length]
        simp [h1, h2, h15, h16, h17, hlt, hrow, hli, hlv, hfc, hft, fnV]
        refine ⟨Val.one l[i], ?_⟩
        refine (gv168 l[i] ks[i] s').mono ?_
        rintro r s'' ⟨rfl, rfl⟩
        by_cases hk : vkind l[i] = ks[i]
        · rw [if_pos hk] at hrun
          simp [hk]
          exact ⟨l.length - (i + 1), by omega, i + 1, by omega, rfl, wrap_succ i (by omega), hrun⟩
        · rw [if_neg hk] at hrun
          simp [hk]
          exact hrun.symm
      · have : i = l.length := by omega
        subst this
        have hr : kindsEq l ks = true := by
          rw [← hrun, List.drop_eq_nil_of_le (Nat.le_refl _)]; simp [kindsEq]
        simp [h16, h17, hr]
  · rw [if_neg hfl]
    simp [sc167, hlen, hll]
    intro _ _
    have : ¬ ((l.length : Int) = ks.length) := by omega
    simp [this])

def areB (l : List Val) (ks : List Int) : Bool := if l.length = ks.length then kindsEq l ks else false

theorem gv135 (l : List Val) (ks : List Int) (e : Bool) : Gv Tryz.prog 135 [.sl (Val.rows l) [] false none, .sl (kindRows ks) [] e none] (.bool (areB l ks)) := fun s => by
  refine AC.args (args' := [.sl (Val.rows l) [] false none, .sl (kindRows ks) [] false none]) ?_ (Les.cons (Le.refl _) (Les.cons (Le.sl _ _ _ _) (Les.refl _)))
  refine ac135 (by simp) ?_
  simp [sc135]
  refine AC.mono (gv167 l ks s) ?_
  rintro r s' ⟨rfl, rfl⟩
  simp [areB]

/-- plain values. -/
def intV (n : Int) : Val := .mk 1 n [] [] [] 0 [] false
def boolV (b : Bool) : Val := .mk 2 (if b then 1 else 0) [] [] [] 0 [] false
def textV (t : List UInt8) : Val := .mk 3 0 t [] [] 0 [] false

theorem le_flat (k n : V) (s el key has : V) : Les [k, n, s, .sl [] [] true none, .sl [] [] true none, el, key, has] [k, n, s, .sl [] [] false none, .sl [] [] false none, el, key, has] :=
  Les.cons (Le.refl _) (Les.cons (Le.refl _) (Les.cons (Le.refl _) (Les.cons (Le.sl _ _ _ _) (Les.cons (Le.sl _ _ _ _) (Les.refl _)))))

theorem flat_le (k n : Int) (t : List UInt8) (el : Int) (key : List UInt8) (has : Bool) : Le (.agg [.int .u8 k, .int .i64 n, .str t, .sl [] [] true none, .sl [] [] true none, .int .u8 el, .str key, .bool has]) (.agg (Val.mk k n t [] [] el key has).cells) := by
  refine Le.agg ?_
  simp only [Val.cells, Val.rows, Fld.rows]
  exact le_flat _ _ _ _ _ _

theorem gv164 (n : Int) : Gv Tryz.prog 164 [.int .i64 n] (.agg (intV n).cells) := fun s => by
  refine AC.weak (Q := fun r s' => r = .agg [.int .u8 1, .int .i64 n, .str [], .sl [] [] true none, .sl [] [] true none, .int .u8 0, .str [], .bool false] ∧ s' = s) ?_
    fun r s' ⟨h1, h2⟩ => ⟨.agg (intV n).cells, s', by rw [h1]; exact flat_le 1 n [] 0 [] false, H.le.refl _, rfl, h2⟩
  exact ac164 (by simp) (by simp [sc164])

theorem gv123 (a b : Int) : Gv Tryz.prog 123 [.int .i64 a, .int .i64 b] (.int .i64 (IntKind.i64.wrap (a + b))) := fun s => ac123 (by simp) (by simp [sc123])
theorem gv133 (a b : Int) : Gv Tryz.prog 133 [.int .i64 a, .int .i64 b] (.int .i64 (IntKind.i64.wrap (a * b))) := fun s => ac133 (by simp) (by simp [sc133])
theorem gv137 (a b : Int) : Gv Tryz.prog 137 [.int .i64 a, .int .i64 b] (.int .i64 (IntKind.i64.wrap (a - b))) := fun s => ac137 (by simp) (by simp [sc137])

/-- what an operation comes to: the value, or a bad one; whether it can be done. -/
def OpP (s : H) (o : Option Val) (r : V) (s' : H) : Prop := s' = s ∧ match o with | some v => r = .tup [.agg v.cells, .bool true] | none => ∃ c8 : List V, r = .tup [.agg c8, .bool false] ∧ c8.length = 8 ∧ ∀ x ∈ c8, one x = true

def numOp (f : Int → Int → Int) : List Val → Option Val
  | [a, b] => if vkind a = 1 ∧ vkind b = 1 then some (intV (f (vnum a) (vnum b))) else none
  | _ => none

theorem kind_cells (v : Val) : ∃ tl, v.cells = .int .u8 (vkind v) :: .int .i64 (vnum v) :: tl ∧ tl.length = 6 := by
  cases v; exact ⟨_, rfl, rfl⟩

theorem gv163 (g : Nat) (f : Int → Int → Int) (hg : ∀ a b, Gv Tryz.prog g [.int .i64 a, .int .i64 b] (.int .i64 (f a b))) (l : List Val) (x : Nat) (s : H) (hx : s.c x = some [fnV g]) :
    AC Tryz.prog 163 [.sl (Val.rows l) [] false none, .ptr x 0] s (OpP s (numOp f l)) := ac163 (by simp) (by
  simp only [sc163]
  refine wpS_cut (fun T L s' => T 0 = .sl (Val.rows l) [] false none ∧ T 1 = .ptr x 0 ∧ T 3 = .lp 3 1 0 ∧ L 3 = (1, zVal) ∧ s' = s) (by simp [zVal]) ?_
  rintro T L s0 ⟨h0, h1, h3, hL3, rfl⟩
  refine wpS_cut (fun T L s' => T 0 = .sl (Val.rows l) [] false none ∧ T 1 = .ptr x 0 ∧ T 3 = .lp 3 1 0 ∧ L 3 = (1, zVal) ∧ s' = s0 ∧ areB l [1, 1] = true) ?_ ?_
  · simp [h0, h1, h3, hL3, chunks]
    refine (gv135 l [1, 1] true s0).mono ?_
    rintro r s' ⟨rfl, rfl⟩
    cases hb : areB l [1, 1]
    · have hn : numOp f l = none := by
        unfold numOp
        split
        · rename_i a b
          simp only [areB, kindsEq, List.length_cons, List.length_nil, if_true] at hb
          rw [if_neg]
          rintro ⟨q1, q2⟩
          simp [q1, q2] at hb
        · rfl
      simp [hn, OpP, zVal]
    · simp []
  rintro T L s1 ⟨h0, h1, h3, hL3, rfl, hb⟩
  obtain ⟨a, b, rfl, ka, kb⟩ : ∃ a b, l = [a, b] ∧ vkind a = 1 ∧ vkind b = 1 := by
    match l, hb with
    | [a, b], hb =>
      simp only [areB, kindsEq, List.length_cons, List.length_nil, if_true] at hb
      by_cases q1 : vkind a = 1
      · by_cases q2 : vkind b = 1
        · exact ⟨a, b, rfl, q1, q2⟩
        · simp [q1, q2] at hb
      · simp [q1] at hb
    | [], hb => simp [areB] at hb
    | [a], hb => simp [areB] at hb
    | a :: b :: c :: r, hb => simp [areB] at hb
  obtain ⟨ta, hta, la⟩ := kind_cells a
  obtain ⟨tb, htb, lb⟩ := kind_cells b
  have hl := (intV (f (vnum a) (vnum b))).len
  have ht : List.take 8 (intV (f (vnum a) (vnum b))).cells = (intV (f (vnum a) (vnum b))).cells := by rw [← hl, List.take_length]
  simp [h0, h1, h3, hL3, hx, Val.rows_eq, hta, htb, la, lb, fnV]
  refine (hg (vnum a) (vnum b) s1).mono ?_
  rintro r s' ⟨rfl, rfl⟩
  simp
  refine (gv164 _ s').mono ?_
  rintro r s'' ⟨rfl, rfl⟩
  simp [hl, ht, zVal, OpP, numOp, ka, kb]
  exact Val.one _)

end Go.Proofs.YthjjlmkooofdiaaGreatDoor

/-
  VlZp: the table of operations; finding one; doing one.
-/
namespace Go.Proofs.YthjjlmkooofdiaaGreatDoor
open Go Go.VL

def nfn (x : Nat) : V := .fn (.func 163) [] [.ptr x 0]

/-- the operations: name, how many at least, at most, what does it. -/
def opsT (x y z : Nat) : List (List UInt8 × Int × Int × V) :=
  [([97, 100, 100], 2, 2, nfn x), ([97, 116], 2, 2, fnV 124), ([99, 97, 116], 0, -1, fnV 125), ([101, 113], 2, 2, fnV 126), ([103, 101, 116], 2, 2, fnV 129), ([108, 101, 110], 1, 1, fnV 130), ([108, 105, 115, 116], 0, -1, fnV 131),
   ([108, 116], 2, 2, fnV 132), ([109, 117, 108], 2, 2, nfn y), ([110, 111, 116], 1, 1, fnV 134), ([112, 117, 115, 104], 2, 2, fnV 136), ([115, 117, 98], 2, 2, nfn z), ([116, 101, 120, 116], 1, 1, fnV 138)]

def opCells (r : List UInt8 × Int × Int × V) : List V := [.str r.1, .int .i64 r.2.1, .int .i64 r.2.2.1, r.2.2.2]

theorem gv122 (g : Nat) (s : H) : AC Tryz.prog 122 [fnV g] s fun r s' => ∃ x, s.c x = none ∧ r = nfn x ∧ s' = put1 s x [fnV g] := ac122 (by simp) (by
  simp [sc122, fnV]
  intro b h1 h2
  exact ⟨b, h1, rfl, rfl⟩)

set_option maxHeartbeats 1000000 in
theorem gv100 (s : H) : AC Tryz.prog 100 [] s fun r s' => ∃ x y z, r = .sl ((opsT x y z).map opCells) [] true none ∧ H.le s s' ∧ s'.c x = some [fnV 123] ∧ s'.c y = some [fnV 133] ∧ s'.c z = some [fnV 137] := ac100 (by simp) (by
  simp only [sc100]
  refine wpS_cut (fun T L s' => s' = s) (by simp) ?_
  rintro T L s0 rfl
  refine wpS_cut (fun T L s' => ∃ x y z, T 0 = .sl ((opsT x y z).map opCells) [] true none ∧ H.le s0 s' ∧ s'.c x = some [fnV 123] ∧ s'.c y = some [fnV 133] ∧ s'.c z = some [fnV 137]) ?_ (by
    rintro T L s' ⟨x, y, z, h0, h⟩
    simp [h0]
    exact ⟨x, y, z, rfl, h⟩)
  simp only [wpS]
  refine wpRs_cut 1 (fun T L s' => ∃ x, T 1 = nfn x ∧ H.le s0 s' ∧ s'.c x = some [fnV 123]) ?_ ?_
  · simp
    refine AC.mono (gv122 123 s0) ?_
    rintro r s' ⟨x, q1, rfl, rfl⟩
    exact ⟨x, rfl, put1Ule q1, put1Uc _ _ _⟩
  rintro T L s1 ⟨x, h1, hle, hx⟩
  simp only [List.drop]
  refine wpRs_cut 8 (fun T L s' => ∃ x, H.le s0 s' ∧ s'.c x = some [fnV 123] ∧ T 2 = .agg (opCells ([97, 100, 100], 2, 2, nfn x)) ∧ T 3 = .agg (opCells ([97, 116], 2, 2, fnV 124)) ∧ T 4 = .agg (opCells ([99, 97, 116], 0, -1, fnV 125)) ∧ T 5 = .agg (opCells ([101, 113], 2, 2, fnV 126)) ∧
    T 6 = .agg (opCells ([103, 101, 116], 2, 2, fnV 129)) ∧ T 7 = .agg (opCells ([108, 101, 110], 1, 1, fnV 130)) ∧ T 8 = .agg (opCells ([108, 105, 115, 116], 0, -1, fnV 131)) ∧ T 9 = .agg (opCells ([108, 116], 2, 2, fnV 132))) ?_ ?_
  · simp [h1, opCells, nfn, fnV]
    exact ⟨hle, hx⟩
  rintro T L s2 ⟨x, hle, hx, g2, g3, g4, g5, g6, g7, g8, g9⟩
  simp only [List.drop]
  refine wpRs_cut 1 (fun T L s' => ∃ y, H.le s0 s' ∧ s'.c x = some [fnV 123] ∧ s'.c y = some [fnV 133] ∧ T 10 = nfn y ∧ T 2 = .agg (opCells ([97, 100, 100], 2, 2, nfn x)) ∧ T 3 = .agg (opCells ([97, 116], 2, 2, fnV 124)) ∧ T 4 = .agg (opCells ([99, 97, 116], 0, -1, fnV 125)) ∧ T 5 = .agg (opCells ([101, 113], 2, 2, fnV 126)) ∧
    T 6 = .agg (opCells ([103, 101, 116], 2, 2, fnV 129)) ∧ T 7 = .agg (opCells ([108, 101, 110], 1, 1, fnV 130)) ∧ T 8 = .agg (opCells ([108, 105, 115, 116], 0, -1, fnV 131)) ∧ T 9 = .agg (opCells ([108, 116], 2, 2, fnV 132))) ?_ ?_
  · simp [g2, g3, g4, g5, g6, g7, g8, g9]
    refine AC.mono (gv122 133 s2) ?_
    rintro r s' ⟨y, q1, rfl, rfl⟩
    have hne : x ≠ y := by rintro rfl; rw [hx] at q1; cases q1
    exact ⟨put1Ule' hle (fresh_le hle q1), by rw [put1Uo hne, hx], y, put1Uc _ _ _, rfl⟩
  rintro T L s3 ⟨y, hle, hx, hy, g10, g2, g3, g4, g5, g6, g7, g8, g9⟩
  simp only [List.drop]
  refine wpRs_cut 3 (fun T L s' => H.le s0 s' ∧ s'.c x = some [fnV 123] ∧ s'.c y = some [fnV 133] ∧ T 2 = .agg (opCells ([97, 100, 100], 2, 2, nfn x)) ∧ T 3 = .agg (opCells ([97, 116], 2, 2, fnV 124)) ∧ T 4 = .agg (opCells ([99, 97, 116], 0, -1, fnV 125)) ∧ T 5 = .agg (opCells ([101, 113], 2, 2, fnV 126)) ∧
    T 6 = .agg (opCells ([103, 101, 116], 2, 2, fnV 129)) ∧ T 7 = .agg (opCells ([108, 101, 110], 1, 1, fnV 130)) ∧ T 8 = .agg (opCells ([108, 105, 115, 116], 0, -1, fnV 131)) ∧ T 9 = .agg (opCells ([108, 116], 2, 2, fnV 132)) ∧
    T 11 = .agg (opCells ([109, 117, 108], 2, 2, nfn y)) ∧ T 12 = .agg (opCells ([110, 111, 116], 1, 1, fnV 134)) ∧ T 13 = .agg (opCells ([112, 117, 115, 104], 2, 2, fnV 136))) ?_ ?_
  · simp [g10, g2, g3, g4, g5, g6, g7, g8, g9, opCells, nfn, fnV]
    exact ⟨hle, hx, hy⟩
  rintro T L s4 ⟨hle, hx, hy, g2, g3, g4, g5, g6, g7, g8, g9, g11, g12, g13⟩
  simp only [List.drop]
  refine wpRs_cut 1 (fun T L s' => ∃ z, H.le s0 s' ∧ s'.c x = some [fnV 123] ∧ s'.c y = some [fnV 133] ∧ s'.c z = some [fnV 137] ∧ T 14 = nfn z ∧ T 2 = .agg (opCells ([97, 100, 100], 2, 2, nfn x)) ∧ T 3 = .agg (opCells ([97, 116], 2, 2, fnV 124)) ∧ T 4 = .agg (opCells ([99, 97, 116], 0, -1, fnV 125)) ∧ T 5 = .agg (opCells ([101, 113], 2, 2, fnV 126)) ∧
    T 6 = .agg (opCells ([103, 101, 116], 2, 2, fnV 129)) ∧ T 7 = .agg (opCells ([108, 101, 110], 1, 1, fnV 130)) ∧ T 8 = .agg (opCells ([108, 105, 115, 116], 0, -1, fnV 131)) ∧ T 9 = .agg (opCells ([108, 116], 2, 2, fnV 132)) ∧
    T 11 = .agg (opCells ([109, 117, 108], 2, 2, nfn y)) ∧ T 12 = .agg (opCells ([110, 111, 116], 1, 1, fnV 134)) ∧ T 13 = .agg (opCells ([112, 117, 115, 104], 2, 2, fnV 136))) ?_ ?_
  · simp [g2, g3, g4, g5, g6, g7, g8, g9, g11, g12, g13]
    refine AC.mono (gv122 137 s4) ?_
    rintro r s' ⟨z, q1, rfl, rfl⟩
    have hne : x ≠ z := by rintro rfl; rw [hx] at q1; cases q1
    have hne' : y ≠ z := by rintro rfl; rw [hy] at q1; cases q1
    exact ⟨put1Ule' hle (fresh_le hle q1), by rw [put1Uo hne, hx], by rw [put1Uo hne', hy], z, put1Uc _ _ _, rfl⟩
  rintro T L s5 ⟨z, hle, hx, hy, hz, g14, g2, g3, g4, g5, g6, g7, g8, g9, g11, g12, g13⟩
  simp [g14, g2, g3, g4, g5, g6, g7, g8, g9, g11, g12, g13, opCells, nfn, fnV, chunks]
  exact ⟨x, y, z, by simp [opsT, opCells, nfn, fnV], hle, hx, hy, hz⟩)

end Go.Proofs.YthjjlmkooofdiaaGreatDoor

/-
  VlZq: finding an operation; doing one.
-/
namespace Go.Proofs.YthjjlmkooofdiaaGreatDoor
open Go Go.VL

def opNames : List (List UInt8) := [[97, 100, 100], [97, 116], [99, 97, 116], [101, 113], [103, 101, 116], [108, 101, 110], [108, 105, 115, 116], [108, 116], [109, 117, 108], [110, 111, 116], [112, 117, 115, 104], [115, 117, 98], [116, 101, 120, 116]]
def opAr : List (Int × Int) := [(2, 2), (2, 2), (0, -1), (2, 2), (2, 2), (1, 1), (0, -1), (2, 2), (2, 2), (1, 1), (2, 2), (2, 2), (1, 1)]
theorem opsT_names (x y z : Nat) : (opsT x y z).map (·.1) = opNames := rfl
theorem opsT_ar (x y z : Nat) : (opsT x y z).map (fun r => (r.2.1, r.2.2.1)) = opAr := rfl

def findN (name : List UInt8) : Nat → List (List UInt8) → Option Nat
  | _, [] => none
  | i, n :: l => if n = name then some i else findN name (i + 1) l
def opIdx (name : List UInt8) : Option Nat := findN name 0 opNames

def zrow : List V := [.str [], .int .i64 0, .int .i64 0, .nilfn]

/-- the boxes that the table holds on to. -/
structure Boxes (s : H) (x y z : Nat) : Prop where
  x : s.c x = some [fnV 123]
  y : s.c y = some [fnV 133]
  z : s.c z = some [fnV 137]

theorem opCells_one (x y z : Nat) : ∀ r ∈ opsT x y z, ∀ v ∈ opCells r, one v = true := by
  intro r hr v hv
  simp only [opCells, List.mem_cons, List.not_mem_nil, or_false] at hv
  rcases hv with rfl | rfl | rfl | rfl
  · rfl
  · rfl
  · rfl
  · simp only [opsT, List.mem_cons, List.not_mem_nil, or_false] at hr
    rcases hr with rfl | rfl | rfl | rfl | rfl | rfl | rfl | rfl | rfl | rfl | rfl | rfl | rfl <;> rfl

set_option maxHeartbeats 1000000 in
theorem gv80 (name : List UInt8) (s : H) : AC Tryz.prog 80 [.str name] s fun r s' => ∃ x y z, H.le s s' ∧ Boxes s' x y z ∧
    match opIdx name with
    | some i => ∃ row, (opsT x y z)[i]? = some row ∧ r = .tup [.agg (opCells row), .bool true]
    | none => r = .tup [.agg zrow, .bool false] := ac80 (by simp) (by
  simp only [sc80]
  refine wpS_cut (fun T L s' => T 0 = .str name ∧ T 2 = .lp 2 1 0 ∧ L 2 = (1, zrow) ∧ s' = s) (by simp [zrow]) ?_
  rintro T L s0 ⟨h0, h2, hL, rfl⟩
  refine wpS_cut (fun T L s' => T 2 = .lp 2 1 0 ∧ L 2 = (1, zrow) ∧ ∃ x y z, H.le s0 s' ∧ Boxes s' x y z ∧ opIdx name = none) ?_ (by
    rintro T L s' ⟨h2, hL, x, y, z, hle, hb, hn⟩
    simp [h2, hL, zrow, hn]
    exact ⟨hle, x, y, z, hb⟩)
  refine wpS_cut (fun T L s' => ∃ x y z, T 0 = .str name ∧ T 2 = .lp 2 1 0 ∧ L 2 = (1, zrow) ∧ T 6 = .sl ((opsT x y z).map opCells) [] true none ∧ T 7 = .int .i64 13 ∧ T 8 = .int .i64 0 ∧ H.le s0 s' ∧ Boxes s' x y z) ?_ ?_
  · simp [h0, h2, hL]
    refine (gv100 s0).mono ?_
    rintro r s' ⟨x, y, z, rfl, hle, hx, hy, hz⟩
    simp []
    intro _
    exact ⟨x, y, z, rfl, rfl, hle, ⟨hx, hy, hz⟩⟩
  rintro T L s1 ⟨x, y, z, h0, h2, hL, h6, h7, h8, hle, hb⟩
  have hlen : (opsT x y z).length = 13 := rfl
  refine wpS_block (wpS_loop (fun n T L s' => ∃ i : Nat, i ≤ 13 ∧ n = 13 - i ∧ T 0 = .str name ∧ T 2 = .lp 2 1 0 ∧ L 2 = (1, zrow) ∧ T 6 = .sl ((opsT x y z).map opCells) [] true none ∧ T 7 = .int .i64 13 ∧ T 8 = .int .i64 (i : Nat) ∧ s' = s1 ∧ findN name i (opNames.drop i) = opIdx name) ?_ ?_)
  · exact ⟨13, 0, by simp, by simp, h0, h2, hL, h6, h7, by simp [h8], rfl, rfl⟩
  · rintro n T L s' ⟨i, hi, rfl, h0, h2, hL, h6, h7, h8, rfl, hrun⟩
    by_cases hlt : i < 13
    · have hlt' : i < (opsT x y z).length := by rw [hlen]; exact hlt
      have hlo : i < opNames.length := hlt
      have hd : opNames.drop i = opNames[i] :: opNames.drop (i + 1) := List.drop_eq_getElem_cons hlo
      have hname : opNames[i] = (opsT x y z)[i].1 := by
        have : opNames[i]? = ((opsT x y z)[i]?).map (·.1) := by rw [← opsT_names x y z, List.getElem?_map]
        rw [List.getElem?_eq_getElem hlo, List.getElem?_eq_getElem hlt'] at this
        exact Option.some.inj this
      rw [hd, hname] at hrun
      simp only [findN] at hrun
      have hrow : (opsT x y z)[i]? = some (opsT x y z)[i] := List.getElem?_eq_getElem hlt'
      have hone := opCells_one x y z _ (List.getElem_mem hlt')
      generalize (opsT x y z)[i] = row at hrun hrow hone
      have hI : (i : Int) < 13 := by omega
      have hcl : (opCells row).length = 4 := rfl
      have hct : List.take 4 (opCells row) = opCells row := rfl
      refine wpS_cut (fun T L s'' => T 0 = .str name ∧ T 2 = .lp 2 1 0 ∧ L 2 = (1, zrow) ∧ T 6 = .sl ((opsT x y z).map opCells) [] true none ∧ T 7 = .int .i64 13 ∧ T 8 = .int .i64 (i : Nat) ∧ s'' = s' ∧ T 9 = .bool true) (by simp [h0, h2, hL, h6, h7, h8, hI]) ?_
      rintro T L s2 ⟨h0, h2, hL, h6, h7, h8, rfl, h9⟩
      refine wpS_cut (fun T L s'' => T 0 = .str name ∧ T 2 = .lp 2 1 0 ∧ L 2 = (1, zrow) ∧ T 6 = .sl ((opsT x y z).map opCells) [] true none ∧ T 7 = .int .i64 13 ∧ T 8 = .int .i64 (i : Nat) ∧ s'' = s2) (by simp [h0, h2, hL, h6, h7, h8, h9]) ?_
      rintro T L s3 ⟨h0, h2, hL, h6, h7, h8, rfl⟩
      refine wpS_cut (fun T L s'' => T 0 = .str name ∧ T 2 = .lp 2 1 0 ∧ L 2 = (1, zrow) ∧ T 6 = .sl ((opsT x y z).map opCells) [] true none ∧ T 7 = .int .i64 13 ∧ T 8 = .int .i64 (i : Nat) ∧ s'' = s3 ∧ ¬ row.1 = name) ?_ ?_
      · refine wpS_block ?_
        refine wpS_cut (fun T L s'' => ∃ u, T 0 = .str name ∧ T 2 = .lp 2 1 0 ∧ L 2 = (1, zrow) ∧ T 6 = .sl ((opsT x y z).map opCells) [] true none ∧ T 7 = .int .i64 13 ∧ T 8 = .int .i64 (i : Nat) ∧ s'' = s3 ∧ T 5 = .lp 5 u 0 ∧ L 5 = (u, opCells row)) ?_ ?_
        · simp [h0, h2, hL, h6, h7, h8, hrow, hcl, hct]
          exact hone
        rintro T L s4 ⟨u, h0, h2, hL, h6, h7, h8, rfl, h5, hL5⟩
        by_cases hk : row.1 = name
        · rw [if_pos hk] at hrun
          simp only [opCells] at hL5 hone
          simp [h0, h2, hL, h5, hL5, hk, ← hrun, zrow]
          refine ⟨hone _ (by simp), hle, x, y, z, hb, row.1, row.2.1, row.2.2.1, row.2.2.2, hrow, by simp [opCells, hk]⟩
        · simp only [opCells] at hL5
          simp [h0, h2, hL, h6, h7, h8, h5, hL5, hk]
      rintro T L s4 ⟨h0, h2, hL, h6, h7, h8, rfl, hk⟩
      rw [if_neg hk] at hrun
      simp [h0, h2, hL, h6, h7, h8]
      exact ⟨13 - (i + 1), by omega, i + 1, by omega, rfl, wrap_succ i (by unfold top; omega), hrun⟩
    · have : i = 13 := by omega
      subst this
      simp only [findN, opNames, List.drop_succ_cons, List.drop_nil] at hrun
      simp [h2, hL, h7, h8]
      exact ⟨hle, ⟨x, y, z, hb⟩, hrun.symm⟩)

end Go.Proofs.YthjjlmkooofdiaaGreatDoor

/-
  VlZr: oper.Do, by what the operation comes to.
-/
namespace Go.Proofs.YthjjlmkooofdiaaGreatDoor
open Go Go.VL

def allOk (l : List Val) : Prop := ∀ v ∈ l, checkB v = true
def allOkB : List Val → Bool
  | [] => true
  | v :: l => if checkB v = true then allOkB l else false

/-- may an operation of a place be done on so many. -/
def arOk (i n : Nat) : Bool := match opAr[i]? with
  | some (a, b) => decide (a ≤ (n : Int)) && (decide (b < 0) || decide ((n : Int) ≤ b))
  | none => false

/-- what an operation is told to come to: a value that may be. -/
def doRes (name : List UInt8) (l : List Val) (ops : Nat → Option Val) : Option Val :=
  match opIdx name with
  | none => none
  | some i => if arOk i l.length = true then (if allOkB l = true then (match ops i with | none => none | some w => if checkB w = true then some w else none) else none) else none

/-- what Do hands back. -/
def DoP (s : H) (o : Option Val) (r : V) (s' : H) : Prop := s' = s ∧ r = match o with | some v => .tup [.agg v.cells, .bool true] | none => .tup [.agg zVal, .bool false]

set_option maxHeartbeats 2000000 in
theorem gv66 (name : List UInt8) (l : List Val) (htop : l.length < top) (ops : Nat → Option Val)
    (hop : ∀ (i : Nat) (s : H) (x y z : Nat) (row : List UInt8 × Int × Int × V), opIdx name = some i → (opsT x y z)[i]? = some row → Boxes s x y z → arOk i l.length = true → allOkB l = true →
      ∃ g ca, row.2.2.2 = .fn (.func g) [] ca ∧ AC Tryz.prog g (.sl (Val.rows l) [] false none :: ca) s (OpP s (ops i)))
    (hfit : ∀ i w, opIdx name = some i → allOkB l = true → arOk i l.length = true → ops i = some w → checkB w = true → Fit w) (s : H) : AC Tryz.prog 66 [.str name, .sl (Val.rows l) [] false none] s (DoP s (doRes name l ops)) := by
  refine AC.weak (Q := fun r s' => H.le s s' ∧ r = match doRes name l ops with | some v => .tup [.agg v.cells, .bool true] | none => .tup [.agg zVal, .bool false]) ?_ fun r s' ⟨h1, h2⟩ => ⟨r, s, Le.refl _, h1, rfl, h2⟩
  have hlen : (Val.rows l).length = l.length := by rw [Val.rows_eq]; simp
  refine ac66 (by simp) ?_
  simp only [sc66]
  refine wpS_cut (fun T L s' => T 0 = .str name ∧ T 1 = .sl (Val.rows l) [] false none ∧ T 4 = .lp 4 1 0 ∧ L 4 = (1, zVal) ∧ s' = s) (by simp [zVal]) ?_
  rintro T L s0 ⟨h0, h1, h4, hL4, rfl⟩
  refine wpS_cut (fun T L s' => ∃ x y z, T 1 = .sl (Val.rows l) [] false none ∧ T 4 = .lp 4 1 0 ∧ L 4 = (1, zVal) ∧ H.le s0 s' ∧ Boxes s' x y z ∧ ∃ u, T 6 = .lp 6 u 0 ∧
    match opIdx name with
    | some i => ∃ row, (opsT x y z)[i]? = some row ∧ L 6 = (u, opCells row) ∧ T 7 = .bool true
    | none => L 6 = (u, zrow) ∧ T 7 = .bool false) ?_ ?_
  · simp [h0, h1, h4, hL4]
    refine (gv80 name s0).mono ?_
    rintro r s' ⟨x, y, z, hle, hb, hr⟩
    cases ho : opIdx name with
    | none =>
      simp only [ho] at hr
      subst hr
      simp [zrow]
      exact ⟨hle, x, y, z, hb⟩
    | some i =>
      simp only [ho] at hr
      obtain ⟨row, hrow, rfl⟩ := hr
      have hcl : (opCells row).length = 4 := rfl
      have hct : List.take 4 (opCells row) = opCells row := rfl
      have hone := opCells_one x y z row (List.mem_of_getElem? hrow)
      simp [hcl]
      exact ⟨hone, hle, x, y, z, hb, row.1, row.2.1, row.2.2.1, row.2.2.2, hrow, rfl⟩
  rintro T L s1 ⟨x, y, z, h1, h4, hL4, hle, hb, u, h6, hfound⟩
  -- found, and so many
  refine wpS_cut (fun T L s' => ∃ i row, T 1 = .sl (Val.rows l) [] false none ∧ T 4 = .lp 4 1 0 ∧ L 4 = (1, zVal) ∧ s' = s1 ∧ T 6 = .lp 6 u 0 ∧ L 6 = (u, opCells row) ∧ opIdx name = some i ∧ (opsT x y z)[i]? = some row ∧ arOk i l.length = true) ?_ ?_
  · cases ho : opIdx name with
    | none =>
      simp only [ho] at hfound
      obtain ⟨hL6, h7⟩ := hfound
      simp [h4, hL4, h7, doRes, ho, zVal, hle]
    | some i =>
      simp only [ho] at hfound
      obtain ⟨row, hrow, hL6, h7⟩ := hfound
      have har : opAr[i]? = some (row.2.1, row.2.2.1) := by rw [← opsT_ar x y z, List.getElem?_map, hrow]; rfl
      have harOk : arOk i l.length = (decide (row.2.1 ≤ (l.length : Int)) && (decide (row.2.2.1 < 0) || decide ((l.length : Int) ≤ row.2.2.1))) := by simp only [arOk, har]
      have hL6' : L 6 = (u, [.str row.1, .int .i64 row.2.1, .int .i64 row.2.2.1, row.2.2.2]) := hL6
      by_cases q1 : row.2.1 ≤ (l.length : Int)
      · have q1' : ¬ (l.length : Int) < row.2.1 := by omega
        by_cases q2 : row.2.2.1 < 0
        · have q2' : ¬ 0 ≤ row.2.2.1 := by omega
          simp [h1, h4, hL4, h6, hL6', h7, hlen, q1', q2']
          exact fun _ => ⟨i, row.1, row.2.1, row.2.2.1, row.2.2.2, rfl, rfl, hrow, by simp [harOk, q1, q2]⟩
        · have q2' : 0 ≤ row.2.2.1 := by omega
          by_cases q3 : (l.length : Int) ≤ row.2.2.1
          · have q3' : ¬ row.2.2.1 < (l.length : Int) := by omega
            simp [h1, h4, hL4, h6, hL6', h7, hlen, q1', q2', q3']
            exact fun _ => ⟨i, row.1, row.2.1, row.2.2.1, row.2.2.2, rfl, rfl, hrow, by simp [harOk, q1, q3]⟩
          · have q3' : row.2.2.1 < (l.length : Int) := by omega
            have hno : doRes name l ops = none := by simp [doRes, ho, harOk, q2, q3]
            simp [h1, h4, hL4, h6, hL6', h7, hlen, q1', q2', q3', hno, zVal]
            exact fun _ => hle
      · have q1' : (l.length : Int) < row.2.1 := by omega
        have hno : doRes name l ops = none := by simp [doRes, ho, harOk, q1]
        simp [h1, h4, hL4, h6, hL6', h7, hlen, q1', hno, zVal]
        exact fun _ => hle
  rintro T L s2 ⟨i, row, h1, h4, hL4, rfl, h6, hL6, ho, hrow, har⟩
  have hres : doRes name l ops = if allOkB l = true then (match ops i with | none => none | some w => if checkB w = true then some w else none) else none := by simp only [doRes, ho, har, if_true]
  refine wpS_cut (fun T L s' => T 1 = .sl (Val.rows l) [] false none ∧ T 4 = .lp 4 1 0 ∧ L 4 = (1, zVal) ∧ s' = s2 ∧ T 6 = .lp 6 u 0 ∧ L 6 = (u, opCells row) ∧ allOkB l = true) ?_ ?_
  · refine wpS_cut (fun T L s' => T 1 = .sl (Val.rows l) [] false none ∧ T 4 = .lp 4 1 0 ∧ L 4 = (1, zVal) ∧ s' = s2 ∧ T 6 = .lp 6 u 0 ∧ L 6 = (u, opCells row) ∧ T 38 = .sl (Val.rows l) [] false none ∧ T 39 = .int .i64 l.length ∧ T 40 = .int .i64 0) (by simp [h1, h4, hL4, h6, hL6, hlen]) ?_
    rintro T L s3 ⟨h1, h4, hL4, rfl, h6, hL6, h38, h39, h40⟩
    refine wpS_block (wpS_loop (fun n T L s' => ∃ j, j ≤ l.length ∧ n = l.length - j ∧ T 1 = .sl (Val.rows l) [] false none ∧ T 4 = .lp 4 1 0 ∧ L 4 = (1, zVal) ∧ s' = s3 ∧ T 6 = .lp 6 u 0 ∧ L 6 = (u, opCells row) ∧ T 38 = .sl (Val.rows l) [] false none ∧ T 39 = .int .i64 l.length ∧ T 40 = .int .i64 (j : Nat) ∧ allOkB (l.drop j) = allOkB l) ?_ ?_)
    · exact ⟨l.length, 0, by simp, by simp, h1, h4, hL4, rfl, h6, hL6, h38, h39, by simp [h40], by simp⟩
    · rintro n T L s' ⟨j, hj, rfl, h1, h4, hL4, rfl, h6, hL6, h38, h39, h40, hrun⟩
      by_cases hlt : j < l.length
      · have hd : l.drop j = l[j] :: l.drop (j + 1) := List.drop_eq_getElem_cons hlt
        have hlv : (Val.rows l)[j]? = some l[j].cells := by rw [Val.rows_eq]; simp [hlt]
        rw [hd] at hrun
        simp only [allOkB] at hrun
        have hfc := l[j].len
        have hft : List.take 8 l[j].cells = l[j].cells := by rw [← hfc, List.take_length]
        have hct : List.take 4 (opCells row) = opCells row := rfl
        simp [h1, h4, hL4, h6, hL6, h38, h39, h40, hlt, hlv, hfc, hft]
        refine ⟨Val.one l[j], ?_⟩
        refine (gv71 l[j] s').mono ?_
        rintro r s'' ⟨rfl, rfl⟩
        cases hc : checkB l[j]
        · simp only [hc, Bool.false_eq_true, if_false] at hrun
          simp [hres, ← hrun, zVal]
          exact hle
        · simp only [hc, if_true] at hrun
          simp []
          exact ⟨l.length - (j + 1), by omega, j + 1, by omega, rfl, wrap_succ j (by omega), hrun⟩
      · have : j = l.length := by omega
        subst this
        rw [List.drop_eq_nil_of_le (Nat.le_refl _)] at hrun
        simp only [allOkB] at hrun
        simp [h1, h4, hL4, h6, hL6, h39, h40, ← hrun]
  rintro T L s3 ⟨h1, h4, hL4, rfl, h6, hL6, hall⟩
  rw [hall] at hres
  simp only [if_true] at hres
  obtain ⟨g, ca, hg, hac⟩ := hop i s3 x y z row ho hrow hb har hall
  have hL6' : L 6 = (u, [.str row.1, .int .i64 row.2.1, .int .i64 row.2.2.1, .fn (.func g) [] ca]) := by rw [hL6, ← hg]; rfl
  refine wpS_cut (fun T L s' => T 4 = .lp 4 1 0 ∧ L 4 = (1, zVal) ∧ s' = s3 ∧ ∃ v, T 10 = .lp 10 v 0 ∧ match ops i with | some w => L 10 = (v, w.cells) ∧ T 7 = .bool true | none => (L 10).1 = v ∧ (L 10).2.length = 8 ∧ T 7 = .bool false) ?_ ?_
  · simp [h1, h4, hL4, h6, hL6']
    refine hac.mono ?_
    rintro r s' ⟨rfl, hr⟩
    cases hw : ops i with
    | none =>
      simp only [hw] at hr
      obtain ⟨c8, rfl, hc8, hone⟩ := hr
      have hct : List.take 8 c8 = c8 := by rw [← hc8, List.take_length]
      simp [hc8]
      exact hone
    | some w =>
      simp only [hw] at hr
      subst hr
      have hl := w.len
      have ht : List.take 8 w.cells = w.cells := by rw [← hl, List.take_length]
      simp [hl]
      exact Val.one w
  rintro T L s4 ⟨h4, hL4, rfl, v, h10, hv⟩
  cases hw : ops i with
  | none =>
    simp only [hw] at hv hres
    obtain ⟨q1, q2, h7⟩ := hv
    simp [h4, hL4, h7, hres, zVal]
    exact hle
  | some w =>
    simp only [hw] at hv hres
    obtain ⟨hL10, h7⟩ := hv
    have hl := w.len
    have ht : List.take 8 w.cells = w.cells := by rw [← hl, List.take_length]
    refine wpS_cut (fun T L s' => T 4 = .lp 4 1 0 ∧ L 4 = (1, zVal) ∧ s' = s4 ∧ T 10 = .lp 10 v 0 ∧ L 10 = (v, w.cells) ∧ checkB w = true) ?_ ?_
    · simp [h4, hL4, h7, h10, hL10, hl, ht]
      refine (gv71 w s4).mono ?_
      rintro r s' ⟨rfl, rfl⟩
      cases hc : checkB w
      · simp only [hc, Bool.false_eq_true, if_false] at hres
        simp [hres, zVal]
        exact hle
      · simp []
    rintro T L s5 ⟨h4, hL4, rfl, h10, hL10, hc⟩
    simp only [hc, if_true] at hres
    simp [h4, hL4, h10, hL10, hl, ht, hres]
    refine (copy_val w (hfit i w ho hall har hw hc) s5).mono ?_
    rintro r s' ⟨rfl, rfl⟩
    simp [hl, ht, zVal]
    exact ⟨Val.one w, hle⟩

end Go.Proofs.YthjjlmkooofdiaaGreatDoor

/-
  VlZs: several expressions, one behind the other.
-/
namespace Go.Proofs.YthjjlmkooofdiaaGreatDoor
open Go Go.VL

/-- several: values, or what went up; and the steps. -/
def listOut (ev : Ex → Int → Out × Int) : List Ex → Int → (List Val ⊕ Up) × Int
  | [], n => (.inl [], n)
  | e :: l, n => match ev e n with
    | (.ok v, n') => match listOut ev l n' with
      | (.inl vs, n'') => (.inl (v :: vs), n'')
      | (.inr u, n'') => (.inr u, n'')
    | (.up u, n') => (.inr u, n')

theorem listOut_len (ev : Ex → Int → Out × Int) : ∀ (l : List Ex) (n : Int) (vs : List Val) (n' : Int), listOut ev l n = (.inl vs, n') → vs.length = l.length
  | [], n, vs, n', h => by simp only [listOut, Prod.mk.injEq, Sum.inl.injEq] at h; obtain ⟨rfl, _⟩ := h; rfl
  | e :: l, n, vs, n', h => by
    simp only [listOut] at h
    split at h
    · split at h
      · rename_i he _ vs' n'' hl
        simp only [Prod.mk.injEq, Sum.inl.injEq] at h
        rw [← h.1]
        simp [listOut_len ev l _ _ _ hl]
      · simp at h
    · simp at h

def ListP (b : Nat) (come : V) (fuel inst : Int) (up : List V) (s : H) (o : (List Val ⊕ Up) × Int) (r : V) (s' : H) : Prop :=
  match o.1 with
  | .inl vs => r = .tup [.sl (Val.rows vs) [] false none, .bool true] ∧ s' = put1 s b (mcs come fuel inst o.2 up)
  | .inr u => r = .tup [.sl [] [] true none, .bool false] ∧ s' = put1 s b (mcs come fuel inst o.2 u.cells)

/-- the rest of a list, behind what has come. -/
def behind (vs : List Val) (o : (List Val ⊕ Up) × Int) : (List Val ⊕ Up) × Int :=
  match o with
  | (.inl ws, n) => (.inl (vs ++ ws), n)
  | (.inr u, n) => (.inr u, n)

theorem behind_nil (o : (List Val ⊕ Up) × Int) : behind [] o = o := by
  obtain ⟨o, n⟩ := o; cases o <;> rfl
theorem behind_cons (ev : Ex → Int → Out × Int) (vs : List Val) (e : Ex) (l : List Ex) (n : Int) : behind vs (listOut ev (e :: l) n) = match ev e n with
    | (.ok v, n') => behind (vs ++ [v]) (listOut ev l n')
    | (.up u, n') => (.inr u, n') := by
  simp only [listOut]
  cases h : ev e n with
  | mk o n' =>
    cases o with
    | ok v =>
      simp only
      cases h2 : listOut ev l n' with
      | mk o2 n2 => cases o2 <;> simp [behind]
    | up u => simp [behind]

theorem fr_put1 (s : H) (b b' : Nat) (cs : List V) (x : Nat × Nat) : ({ put1 s b cs with f := upd (put1 s b cs).f b' (some x) } : H) = put1 (fr s b' x) b cs := rfl
theorem fr_put1Ule {s : H} {b b' : Nat} {cs : List V} {x : Nat × Nat} (h : s.f b' = none) : H.le (put1 s b cs) (put1 (fr s b' x) b cs) := put1Ule2 (fr_le h)

/-- a list that grows in a block of its own, if it has begun. -/
def Grow (s : H) (sz : Nat) (xs : List (List V)) (v : V) (s1 : H) : Prop :=
  (xs = [] ∧ v = .sl [] [] true none ∧ s1 = s) ∨ (xs ≠ [] ∧ ∃ b c, s.c b = none ∧ s.f b = none ∧ v = .sl xs [] false (some (b, c)) ∧ s1 = fr s b (xs.length * sz, c * sz))

set_option maxHeartbeats 2000000 in
theorem gv65 (b : Nat) (come : V) (fuel inst steps : Int) (up : List V) (xs : List (List V)) (deep : Int) (ev : Ex → Int → Out × Int) (l : List Ex) (hl : l.length ≤ 1048576)
    (ih : ∀ e ∈ l, ∀ (n : Int) (s : H), AC Tryz.prog 19 [.ptr b 0, .agg [.sl xs [] false none, .int .i64 deep], .agg e.cells] (put1 s b (mcs come fuel inst n up)) (EvP b come fuel inst up s (ev e n))) (s : H) :
    AC Tryz.prog 65 [.ptr b 0, .agg [.sl xs [] false none, .int .i64 deep], .sl (Ex.rows l) [] false none] (put1 s b (mcs come fuel inst steps up)) (ListP b come fuel inst up s (listOut ev l steps)) := by
  have hlen : (Ex.rows l).length = l.length := by rw [Ex.rows_eq]; simp
  refine AC.weak (Q := fun r s' => ∃ s1, H.le s s1 ∧ match (listOut ev l steps).1 with
    | .inl vs => (∃ ex t, r = .tup [.sl (Val.rows vs) [] ex t, .bool true]) ∧ s' = put1 s1 b (mcs come fuel inst (listOut ev l steps).2 up)
    | .inr u => r = .tup [.sl [] [] true none, .bool false] ∧ s' = put1 s1 b (mcs come fuel inst (listOut ev l steps).2 u.cells)) ?_ ?_
  rotate_left
  · rintro r s' ⟨s1, hle, h⟩
    generalize listOut ev l steps = o at h
    obtain ⟨o, n⟩ := o
    cases o with
    | inl vs =>
      obtain ⟨⟨ex, t, rfl⟩, rfl⟩ := h
      exact ⟨_, _, Le.tup (Les.cons (Le.sl _ _ _ _) (Les.refl _)), put1Ule2 hle, rfl, rfl⟩
    | inr u =>
      obtain ⟨rfl, rfl⟩ := h
      exact ⟨_, _, Le.refl _, put1Ule2 hle, rfl, rfl⟩
  refine ac65 (by simp) ?_
  simp only [sc65]
  refine wpS_cut (fun T L s' => T 0 = .ptr b 0 ∧ T 2 = .sl (Ex.rows l) [] false none ∧ T 4 = .lp 4 1 0 ∧ L 4 = (1, [.sl xs [] false none, .int .i64 deep]) ∧ T 6 = .sl [] [] true none ∧ T 7 = .bool false ∧ s' = put1 s b (mcs come fuel inst steps up)) (by simp) ?_
  rintro T L s0 ⟨h0, h2, h4, hL4, h6, h7, rfl⟩
  refine wpS_cut (fun T L s' => ∃ s1 vs n ex t, H.le s s1 ∧ listOut ev l steps = (.inl vs, n) ∧ T 6 = .sl (Val.rows vs) [] ex t ∧ s' = put1 s1 b (mcs come fuel inst n up)) ?_ (by
    rintro T L s' ⟨s1, vs, n, ex, t, hle, ho, h6, rfl⟩
    simp [h6, ho]
    exact ⟨s1, hle, rfl⟩)
  refine wpS_cut (fun T L s' => T 0 = .ptr b 0 ∧ T 4 = .lp 4 1 0 ∧ L 4 = (1, [.sl xs [] false none, .int .i64 deep]) ∧ T 6 = .sl [] [] true none ∧ T 12 = .sl (Ex.rows l) [] false none ∧ T 13 = .int .i64 l.length ∧ T 14 = .int .i64 0 ∧ s' = put1 s b (mcs come fuel inst steps up)) (by simp [h0, h2, h4, hL4, h6, hlen]) ?_
  rintro T L s0 ⟨h0, h4, hL4, h6, h12, h13, h14, rfl⟩
  refine wpS_block (wpS_loop (fun m T L s' => ∃ i vs n s1, i ≤ l.length ∧ m = l.length - i ∧ vs.length = i ∧ T 0 = .ptr b 0 ∧ T 4 = .lp 4 1 0 ∧ L 4 = (1, [.sl xs [] false none, .int .i64 deep]) ∧ Grow s 8 (Val.rows vs) (T 6) s1 ∧ T 12 = .sl (Ex.rows l) [] false none ∧ T 13 = .int .i64 l.length ∧ T 14 = .int .i64 (i : Nat) ∧
    s' = put1 s1 b (mcs come fuel inst n up) ∧ behind vs (listOut ev (l.drop i) n) = listOut ev l steps) ?_ ?_)
  · exact ⟨l.length, 0, [], steps, s, by simp, by simp, rfl, h0, h4, hL4, .inl ⟨rfl, h6, rfl⟩, h12, h13, by simp [h14], rfl, by simp [behind_nil]⟩
  · rintro m T L s' ⟨i, vs, n, s1, hi, rfl, hvs, h0, h4, hL4, hg, h12, h13, h14, rfl, hrun⟩
    have hle1 : H.le s s1 := by
      rcases hg with ⟨_, _, rfl⟩ | ⟨_, b', c, _, q2, _, rfl⟩
      · exact H.le.refl _
      · exact fr_le q2
    by_cases hlt : i < l.length
    · have hd : l.drop i = l[i] :: l.drop (i + 1) := List.drop_eq_getElem_cons hlt
      have hlv : (Ex.rows l)[i]? = some l[i].cells := by rw [Ex.rows_eq]; simp [hlt]
      rw [hd, behind_cons] at hrun
      have hfc := l[i].len
      have hft : List.take 10 l[i].cells = l[i].cells := by rw [← hfc, List.take_length]
      have ih1 := ih l[i] (List.getElem_mem _) n s1
      obtain ⟨o, n', hev⟩ : ∃ o n', ev l[i] n = (o, n') := ⟨_, _, rfl⟩
      rw [hev] at hrun ih1
      have hone10 : ∀ x ∈ l[i].cells, one x = true := by
        cases l[i]; simp [Ex.cells]
      refine wpS_cut (fun T L s'' => T 0 = .ptr b 0 ∧ T 4 = .lp 4 1 0 ∧ L 4 = (1, [.sl xs [] false none, .int .i64 deep]) ∧ Grow s 8 (Val.rows vs) (T 6) s1 ∧ T 12 = .sl (Ex.rows l) [] false none ∧ T 13 = .int .i64 l.length ∧ T 14 = .int .i64 (i : Nat) ∧ s'' = put1 s1 b (mcs come fuel inst n up) ∧ T 15 = .bool true) (by simp [h0, h4, hL4, hg, h12, h13, h14, hlt]) ?_
      rintro T L s2 ⟨h0, h4, hL4, hg, h12, h13, h14, rfl, h15⟩
      refine wpS_cut (fun T L s'' => T 0 = .ptr b 0 ∧ T 4 = .lp 4 1 0 ∧ L 4 = (1, [.sl xs [] false none, .int .i64 deep]) ∧ Grow s 8 (Val.rows vs) (T 6) s1 ∧ T 12 = .sl (Ex.rows l) [] false none ∧ T 13 = .int .i64 l.length ∧ T 14 = .int .i64 (i : Nat) ∧ s'' = put1 s1 b (mcs come fuel inst n up)) (by simp [h0, h4, hL4, hg, h12, h13, h14, h15]) ?_
      rintro T L s3 ⟨h0, h4, hL4, hg, h12, h13, h14, rfl⟩
      refine wpS_cut (fun T L s'' => ∃ v s2, T 0 = .ptr b 0 ∧ T 4 = .lp 4 1 0 ∧ L 4 = (1, [.sl xs [] false none, .int .i64 deep]) ∧ Grow s 8 (Val.rows (vs ++ [v])) (T 6) s2 ∧ T 12 = .sl (Ex.rows l) [] false none ∧ T 13 = .int .i64 l.length ∧ T 14 = .int .i64 (i : Nat) ∧ o = .ok v ∧ s'' = put1 s2 b (mcs come fuel inst n' up)) ?_ ?_
      · refine wpS_block ?_
        refine wpS_cut (fun T L s'' => ∃ u, T 0 = .ptr b 0 ∧ T 4 = .lp 4 1 0 ∧ L 4 = (1, [.sl xs [] false none, .int .i64 deep]) ∧ Grow s 8 (Val.rows vs) (T 6) s1 ∧ T 12 = .sl (Ex.rows l) [] false none ∧ T 13 = .int .i64 l.length ∧ T 14 = .int .i64 (i : Nat) ∧ s'' = put1 s1 b (mcs come fuel inst n up) ∧ T 9 = .lp 9 u 0 ∧ L 9 = (u, l[i].cells)) ?_ ?_
        · simp [h0, h4, hL4, hg, h12, h13, h14, hlv, hfc, hft]
          exact hone10
        rintro T L s4 ⟨u, h0, h4, hL4, hg, h12, h13, h14, rfl, h9, hL9⟩
        refine wpS_cut (fun T L s'' => ∃ v u, T 0 = .ptr b 0 ∧ T 4 = .lp 4 1 0 ∧ L 4 = (1, [.sl xs [] false none, .int .i64 deep]) ∧ Grow s 8 (Val.rows vs) (T 6) s1 ∧ T 12 = .sl (Ex.rows l) [] false none ∧ T 13 = .int .i64 l.length ∧ T 14 = .int .i64 (i : Nat) ∧
          ((o = .ok v ∧ T 10 = .lp 10 u 0 ∧ L 10 = (u, v.cells) ∧ T 11 = .bool true ∧ s'' = put1 s1 b (mcs come fuel inst n' up)) ∨ (∃ w, o = .up w ∧ T 11 = .bool false ∧ s'' = put1 s1 b (mcs come fuel inst n' w.cells)))) ?_ ?_
        · simp [h0, h4, hL4, hg, h12, h13, h14, h9, hL9, hfc, hft]
          refine ih1.mono ?_
          intro r s' hq
          cases o with
          | ok v =>
            obtain ⟨rfl, rfl⟩ := hq
            have hvl := v.len
            have hvt : List.take 8 v.cells = v.cells := by rw [← hvl, List.take_length]
            simp [hvl]
            exact Val.one v
          | up w =>
            obtain ⟨rfl, rfl⟩ := hq
            simp [zVal]
            exact ⟨Val.nil, trivial⟩
        rintro T L s5 ⟨v, u', h0, h4, hL4, hg, h12, h13, h14, hcase⟩
        rcases hcase with ⟨rfl, h10, hL10, h11, rfl⟩ | ⟨w, rfl, h11, rfl⟩
        · have hvl := v.len
          have hvt : List.take 8 v.cells = v.cells := by rw [← hvl, List.take_length]
          have hrv : Val.rows (vs ++ [v]) = Val.rows vs ++ [v.cells] := by simp [Val.rows_eq]
          have hvv : (Val.rows vs).length = vs.length := by rw [Val.rows_eq]; simp
          have h8 : ∀ x ∈ Val.rows vs, x.length = 8 := by
            intro x hx; rw [Val.rows_eq] at hx; obtain ⟨a, _, rfl⟩ := List.mem_map.1 hx; exact a.len
          rcases hg with ⟨q1, q2, q3⟩ | ⟨q1, b', c, q2, q3, q4, q5⟩
          · simp [h0, h4, hL4, h12, h13, h14, h10, hL10, h11, hvl, hvt, chunks, q2]
            have hv0 : vs = [] := by rw [Val.rows_eq] at q1; simpa using q1
            subst hv0
            refine ⟨Val.one v, fun b' c g1 g2 => ⟨v, fr s b' (8, c * 8), .inr ⟨by simp [Val.rows_eq], b', c, ?_, ?_, by simp [Val.rows_eq], by simp [Val.rows_eq]⟩, rfl, by rw [q3]; rfl⟩⟩
            · rw [q3] at g1
              simp only [put1, upd] at g1
              split at g1
              · cases g1
              · exact g1
            · rw [q3] at g2; exact g2
          · simp [h0, h4, hL4, h12, h13, h14, h10, hL10, h11, hvl, hvt, chunks, q4]
            refine ⟨Val.one v, h8, by rw [hvv, hvs]; exact Nat.le_trans (Nat.mul_le_mul_right _ (by omega)) (room_of hl), b', c, ⟨rfl, rfl⟩, by rw [q5]; simp [put1, fr], ?_⟩
            rintro b2 c2 hb
            have e1 : (Val.rows (vs ++ [v])).length = (Val.rows vs).length + 1 := by simp [hrv]
            rcases hb with ⟨rfl, rfl⟩ | ⟨g1, g2⟩
            · refine ⟨v, fr s b2 (((Val.rows vs).length + 1) * 8, c2 * 8), .inr ⟨by rw [hrv]; simp, b2, c2, q2, q3, by rw [hrv], by rw [e1]⟩, rfl, ?_⟩
              rw [q5]
              exact congrArg (fun h => put1 h b (mcs come fuel inst n' up)) fr_again
            · have hne : b2 ≠ b' := by
                rintro rfl; rw [q5] at g2; simp [put1, fr] at g2
              refine ⟨v, fr s b2 (((Val.rows vs).length + 1) * 8, c2 * 8), .inr ⟨by rw [hrv]; simp, b2, c2, ?_, ?_, by rw [hrv], by rw [e1]⟩, rfl, ?_⟩
              · rw [q5] at g1
                simp only [put1, upd, fr] at g1
                split at g1
                · cases g1
                · exact g1
              · rw [q5] at g2; simpa [put1, fr, hne] using g2
              · rw [q5]
                exact congrArg (fun h => put1 h b (mcs come fuel inst n' up)) (fr_anew q3)
        · simp [h11, ← hrun]
          exact ⟨s1, hle1, rfl⟩
      rintro T L s4 ⟨v, s2, h0, h4, hL4, hg, h12, h13, h14, rfl, rfl⟩
      simp only at hrun
      simp [h0, h4, hL4, h12, h13, h14]
      exact ⟨l.length - (i + 1), by omega, i + 1, by omega, rfl, vs ++ [v], by simp [hvs], n', s2, hg, wrap_succ i (by unfold top; omega), rfl, hrun⟩
    · have : i = l.length := by omega
      subst this
      rw [List.drop_eq_nil_of_le (Nat.le_refl _)] at hrun
      simp only [listOut, behind, List.append_nil] at hrun
      simp [h13, h14]
      refine ⟨s1, hle1, vs, n, hrun.symm, ?_, rfl⟩
      rcases hg with ⟨q1, q2, _⟩ | ⟨_, b', c, _, _, q4, _⟩
      · exact .inr ⟨none, by rw [q2, q1]⟩
      · exact .inl ⟨some (b', c), q4⟩

end Go.Proofs.YthjjlmkooofdiaaGreatDoor

/-
  VlZt: an operation's expression.
-/
namespace Go.Proofs.YthjjlmkooofdiaaGreatDoor
open Go Go.VL

/-- a value, if it may be. -/
def doneOut (w : Val) (n : Int) : Out × Int := if checkB w = true then (.ok w, n) else (.up (.text great), n)

theorem done63 (b : Nat) (come : V) (fuel inst n : Int) (up : List V) (hup : up.length = 11) (w : Val) (s : H) :
    AC Tryz.prog 63 [.ptr b 0, .agg w.cells] (put1 s b (mcs come fuel inst n up)) (EvP b come fuel inst up s (doneOut w n)) := by
  refine (gv63 b (mcs come fuel inst n up) w _ (put1Uc _ _ _) (by simp [mcs, hup])).mono ?_
  intro r s' h
  unfold doneOut
  cases hc : checkB w
  · simp only [hc, Bool.false_eq_true, if_false] at h ⊢
    obtain ⟨rfl, rfl⟩ := h
    exact ⟨rfl, by rw [put1Uput1]; rfl⟩
  · simp only [hc, if_true] at h ⊢
    obtain ⟨rfl, rfl⟩ := h
    exact ⟨rfl, rfl⟩

def opOut (ev : Ex → Int → Out × Int) (dres : List Val → Option Val) (l : List Ex) (n : Int) : Out × Int :=
  match listOut ev l n with
  | (.inr u, n') => (.up u, n')
  | (.inl vs, n') => match dres vs with
    | none => (.up (.text kindT), n')
    | some w => doneOut w n'

set_option maxHeartbeats 2000000 in
theorem gv45 (b : Nat) (come : V) (fuel inst steps : Int) (up : List V) (hup : up.length = 11) (xs : List (List V)) (deep : Int) (ev : Ex → Int → Out × Int) (k n : Int) (t : List UInt8) (args : List Ex) (names : List (List UInt8)) (vals : List Ex) (el : Int) (key : List Ex) (acts : List Ac) (site : List UInt8)
    (hl : args.length ≤ 1048576) (ha : t ≠ [97, 110, 100]) (ho : t ≠ [111, 114]) (dres : List Val → Option Val)
    (ih : ∀ e ∈ args, ∀ (n : Int) (s : H), AC Tryz.prog 19 [.ptr b 0, .agg [.sl xs [] false none, .int .i64 deep], .agg e.cells] (put1 s b (mcs come fuel inst n up)) (EvP b come fuel inst up s (ev e n)))
    (hdo : ∀ vs n', listOut ev args steps = (.inl vs, n') → ∀ s, AC Tryz.prog 66 [.str t, .sl (Val.rows vs) [] false none] s (DoP s (dres vs))) (s : H) :
    AC Tryz.prog 45 [.ptr b 0, .agg [.sl xs [] false none, .int .i64 deep], .agg (Ex.mk k n t args names vals el key acts site).cells] (put1 s b (mcs come fuel inst steps up)) (EvP b come fuel inst up s (opOut ev dres args steps)) := ac45 (by simp) (by
  simp only [sc45]
  generalize hec : (Ex.mk k n t args names vals el key acts site).cells = ec
  have e2 : ec[2]? = some (.str t) := by rw [← hec]; rfl
  have e3 : ec[3]? = some (.sl (Ex.rows args) [] false none) := by rw [← hec]; rfl
  have hel : ec.length = 10 := by rw [← hec]; exact Ex.len _
  have e2' : ec[2] = .str t := (List.getElem?_eq_some_iff.1 e2).2
  have e3' : ec[3] = .sl (Ex.rows args) [] false none := (List.getElem?_eq_some_iff.1 e3).2
  refine wpS_cut (fun T L s' => T 0 = .ptr b 0 ∧ T 4 = .lp 4 1 0 ∧ L 4 = (1, [.sl xs [] false none, .int .i64 deep]) ∧ T 5 = .lp 5 1 0 ∧ L 5 = (1, ec) ∧ T 6 = .lp 6 1 0 ∧ L 6 = (1, zVal) ∧ s' = put1 s b (mcs come fuel inst steps up)) (by simp [zVal, hel]) ?_
  rintro T L s0 ⟨h0, h4, hL4, h5, hL5, h6, hL6, rfl⟩
  refine wpS_cut (fun T L s' => T 0 = .ptr b 0 ∧ T 4 = .lp 4 1 0 ∧ L 4 = (1, [.sl xs [] false none, .int .i64 deep]) ∧ T 5 = .lp 5 1 0 ∧ L 5 = (1, ec) ∧ T 6 = .lp 6 1 0 ∧ L 6 = (1, zVal) ∧ s' = put1 s b (mcs come fuel inst steps up)) ?_ ?_
  · simp [h0, h4, hL4, h5, hL5, h6, hL6, hel, e2', ha, ho]
  rintro T L s0 ⟨h0, h4, hL4, h5, hL5, h6, hL6, rfl⟩
  have hlist := gv65 b come fuel inst steps up xs deep ev args hl ih s
  obtain ⟨o, n', hres⟩ : ∃ o n', listOut ev args steps = (o, n') := ⟨_, _, rfl⟩
  rw [hres] at hlist
  have hop : opOut ev dres args steps = match o with | .inr u => (.up u, n') | .inl vs => match dres vs with | none => (.up (.text kindT), n') | some w => doneOut w n' := by
    simp only [opOut, hres]; cases o <;> rfl
  rw [hop]
  refine wpS_cut (fun T L s' => T 0 = .ptr b 0 ∧ T 5 = .lp 5 1 0 ∧ L 5 = (1, ec) ∧ T 6 = .lp 6 1 0 ∧ L 6 = (1, zVal) ∧ (match o with
    | .inl vs => T 12 = .sl (Val.rows vs) [] false none ∧ T 13 = .bool true ∧ s' = put1 s b (mcs come fuel inst n' up)
    | .inr u => T 13 = .bool false ∧ s' = put1 s b (mcs come fuel inst n' u.cells))) ?_ ?_
  · simp [h0, h4, hL4, h5, hL5, h6, hL6, hel, e3']
    refine hlist.mono ?_
    intro r s' hq
    cases o with
    | inl vs =>
      obtain ⟨rfl, rfl⟩ := hq
      simp []
    | inr u =>
      obtain ⟨rfl, rfl⟩ := hq
      simp []
  rintro T L s1 ⟨h0, h5, hL5, h6, hL6, hcase⟩
  cases o with
  | inr u =>
    obtain ⟨h13, rfl⟩ := hcase
    simp [h6, hL6, h13, zVal, EvP]
  | inl vs =>
    obtain ⟨h12, h13, rfl⟩ := hcase
    refine wpS_cut (fun T L s' => T 0 = .ptr b 0 ∧ T 5 = .lp 5 1 0 ∧ L 5 = (1, ec) ∧ T 6 = .lp 6 1 0 ∧ L 6 = (1, zVal) ∧ T 12 = .sl (Val.rows vs) [] false none ∧ s' = put1 s b (mcs come fuel inst n' up)) (by simp [h0, h5, hL5, h6, hL6, h12, h13]) ?_
    rintro T L s2 ⟨h0, h5, hL5, h6, hL6, h12, rfl⟩
    refine wpS_cut (fun T L s' => ∃ u, T 0 = .ptr b 0 ∧ T 6 = .lp 6 1 0 ∧ L 6 = (1, zVal) ∧ s' = put1 s b (mcs come fuel inst n' up) ∧ T 14 = .lp 14 u 0 ∧ (match dres vs with
      | some w => L 14 = (u, w.cells) ∧ T 13 = .bool true
      | none => L 14 = (u, zVal) ∧ T 13 = .bool false)) ?_ ?_
    · simp [h0, h5, hL5, h6, hL6, h12, hel, e2']
      refine (hdo vs n' hres _).mono ?_
      rintro r s' ⟨rfl, rfl⟩
      cases hd : dres vs with
      | none => simp [zVal]
      | some w =>
        have hl := w.len
        have ht : List.take 8 w.cells = w.cells := by rw [← hl, List.take_length]
        simp [hl]
        exact Val.one w
    rintro T L s2 ⟨u, h0, h6, hL6, rfl, h14, hd'⟩
    cases hd : dres vs with
    | none =>
      simp only [hd] at hd'
      obtain ⟨hL14, h13⟩ := hd'
      simp [h0, h6, hL6, h13]
      refine (fail26 b come fuel inst n' up hup kindT s).mono ?_
      rintro r s' ⟨rfl, rfl⟩
      simp [zVal, EvP, hd]
    | some w =>
      simp only [hd] at hd'
      obtain ⟨hL14, h13⟩ := hd'
      have hl := w.len
      have ht : List.take 8 w.cells = w.cells := by rw [← hl, List.take_length]
      simp [h0, h6, hL6, h13, h14, hL14, hl, ht]
      refine (done63 b come fuel inst n' up hup w s).mono ?_
      intro r s' hq
      unfold doneOut at hq ⊢
      cases hc : checkB w
      · simp only [hc, Bool.false_eq_true, if_false] at hq ⊢
        obtain ⟨rfl, rfl⟩ := hq
        simp [zVal, EvP, hd, hc]
      · simp only [hc, if_true] at hq ⊢
        obtain ⟨rfl, rfl⟩ := hq
        simp [zVal, EvP, hl, ht, hd, hc]
        exact Val.one w)

end Go.Proofs.YthjjlmkooofdiaaGreatDoor

/-
  VlZu: a sum is a sum: the statements' own look whether the program lives.
-/
namespace Go.Proofs.YthjjlmkooofdiaaGreatDoor
open Go Go.VL

theorem gv35 (c : List V) (hc : c.length = 10) : Gv Tryz.prog 35 [.agg c] (.bool true) := fun s => ac35 (by simp) (by
  simp [sc35, hc])

theorem gv37 (b : Nat) (come : V) (fuel inst steps : Int) (up : List V) (xs : List (List V)) (deep : Int) (k n : Int) (t : List UInt8) (args : List Ex) (names : List (List UInt8)) (vals : List Ex) (el : Int) (key : List Ex) (acts : List Ac) (site : List UInt8) (s : H) :
    AC Tryz.prog 37 [.ptr b 0, .agg [.sl xs [] false none, .int .i64 deep], .agg (Ex.mk k n t args names vals el key acts site).cells] (put1 s b (mcs come fuel inst steps up)) (EvP b come fuel inst up s (.ok (intV n), steps)) := by
  refine AC.weak (Q := fun r s' => r = .tup [.agg [.int .u8 1, .int .i64 n, .str [], .sl [] [] true none, .sl [] [] true none, .int .u8 0, .str [], .bool false], .bool true] ∧ s' = put1 s b (mcs come fuel inst steps up)) ?_
    fun r s' ⟨h1, h2⟩ => ⟨.tup [.agg (intV n).cells, .bool true], s', by rw [h1]; exact Le.tup (Les.cons (flat_le 1 n [] 0 [] false) (Les.refl _)), H.le.refl _, rfl, h2⟩
  exact ac37 (by simp) (by simp [sc37, Ex.cells])

def mayOp (t : List UInt8) (args : List Ex) : Bool := isName t && (decide (args ≠ []) || (decide (t ≠ [97, 110, 100]) && decide (t ≠ [111, 114])))

theorem gv44 (k n : Int) (t : List UInt8) (args : List Ex) (names : List (List UInt8)) (vals : List Ex) (el : Int) (key : List Ex) (acts : List Ac) (site : List UInt8) :
    Gv Tryz.prog 44 [.agg (Ex.mk k n t args names vals el key acts site).cells] (.bool (mayOp t args)) := fun s => ac44 (by simp) (by
  simp [sc44, Ex.cells]
  refine (gv42 t s).mono ?_
  rintro r s' ⟨rfl, rfl⟩
  unfold mayOp
  cases isName t
  · simp
  · by_cases h : args = []
    · subst h
      by_cases h1 : t = [97, 110, 100]
      · subst h1; simp [Ex.rows]
      · by_cases h2 : t = [111, 114]
        · subst h2; simp [Ex.rows]
        · simp [Ex.rows, h1, h2]
    · have hp : 0 < args.length := List.length_pos_iff.2 h
      simp [Ex.rows_eq, h, hp])

/-- a whole number's expression. -/
def wholeE (n : Int) : Ex := .mk 1 n [] [] [] [] 0 [] [] []
def addE : Ex := .mk 5 0 [97, 100, 100] [wholeE 1, wholeE 2] [] [] 0 [] [] []

def evInt (fuel deep : Int) (e : Ex) (n : Int) : Out × Int := evalRes fuel n deep true (.ok (intV (match e with | .mk _ m _ _ _ _ _ _ _ _ => m)), IntKind.i64.wrap (n + 1))

theorem ev_whole (b : Nat) (come : V) (fuel inst n : Int) (up : List V) (hup : up.length = 11) (xs : List (List V)) (deep m : Int) (s : H) :
    AC Tryz.prog 19 [.ptr b 0, .agg [.sl xs [] false none, .int .i64 deep], .agg (wholeE m).cells] (put1 s b (mcs come fuel inst n up)) (EvP b come fuel inst up s (evInt fuel deep (wholeE m) n)) :=
  gv19 b come fuel inst n up hup xs deep (wholeE m) 1 rfl (by decide) true _ 35 37 (fun _ _ _ => []) (fun _ _ _ => rfl) (fun _ _ _ => rfl)
    (fun s _ _ _ _ _ _ => gv35 _ (Ex.len _) s) (fun _ _ _ s => gv37 b come fuel inst _ up xs _ 1 m [] [] [] [] 0 [] [] [] s) s

def addOps (l : List Val) : Nat → Option Val := fun _ => numOp (fun a b => IntKind.i64.wrap (a + b)) l

theorem fit_int (n : Int) : Fit (intV n) := by simp [intV, Fit, Fits, FitFs]

theorem do_add (l : List Val) (htop : l.length < top) (s : H) : AC Tryz.prog 66 [.str [97, 100, 100], .sl (Val.rows l) [] false none] s (DoP s (doRes [97, 100, 100] l (addOps l))) := by
  refine gv66 _ l htop (addOps l) ?_ ?_ s
  · intro i s x y z row hi hrow hb _ _
    have : i = 0 := by
      have : opIdx [97, 100, 100] = some 0 := by decide
      rw [this] at hi; exact (Option.some.inj hi).symm
    subst this
    simp only [opsT, List.getElem?_cons_zero, Option.some.injEq] at hrow
    subst hrow
    exact ⟨163, [.ptr x 0], rfl, gv163 123 _ gv123 l x s hb.x⟩
  · intro i w _ _ _ hw _
    simp only [addOps] at hw
    unfold numOp at hw
    split at hw
    · split at hw
      · cases hw; exact fit_int _
      · cases hw
    · cases hw

/-- what the sum's expression comes to. -/
def addRes (fuel : Int) : Out × Int := evalRes fuel 0 0 true (opOut (evInt fuel 1) (fun l => doRes [97, 100, 100] l (addOps l)) [wholeE 1, wholeE 2] 1)

theorem ev_add (b : Nat) (come : V) (fuel inst : Int) (s : H) :
    AC Tryz.prog 19 [.ptr b 0, .agg [.sl [] [] false none, .int .i64 0], .agg addE.cells] (put1 s b (mcs come fuel inst 0 upz)) (EvP b come fuel inst upz s (addRes fuel)) := by
  have h1 : IntKind.i64.wrap (0 + 1) = 1 := by decide
  refine gv19 b come fuel inst 0 upz rfl [] 0 addE 5 rfl (by decide) true _ 44 45 (fun _ _ _ => []) (fun _ _ _ => rfl) (fun _ _ _ => rfl)
    (fun s _ _ _ _ _ _ => gv44 5 0 [97, 100, 100] [wholeE 1, wholeE 2] [] [] 0 [] [] [] s) (fun _ _ _ s => ?_) s
  rw [h1]
  refine gv45 b come fuel inst 1 upz rfl [] 1 (evInt fuel 1) 5 0 [97, 100, 100] [wholeE 1, wholeE 2] [] [] 0 [] [] [] (by decide) (by decide) (by decide) _ ?_ ?_ s
  · intro e he n s
    simp only [List.mem_cons, List.not_mem_nil, or_false] at he
    rcases he with rfl | rfl
    · exact ev_whole b come fuel inst n upz rfl [] 1 1 s
    · exact ev_whole b come fuel inst n upz rfl [] 1 2 s
  · intro vs n' h s
    have := listOut_len _ _ _ _ _ h
    exact do_add vs (by rw [this]; decide) s

theorem add_100 : addRes 100 = (.ok (intV 3), 3) := by rfl
theorem add_2 : addRes 2 = (.up (.text fuelT), 2) := by rfl

theorem eval_add (fuel : Int) (ok : Bool) (v8 up : List V) (steps : Int) (hv8 : v8.length = 8) (hone : ∀ x ∈ v8, one x = true) (hup : up.length = 11) (huone : ∀ x ∈ up, one x = true)
    (h : (∃ v, addRes fuel = (.ok v, steps) ∧ ok = true ∧ v8 = v.cells ∧ up = upz) ∨ (∃ u, addRes fuel = (.up u, steps) ∧ ok = false ∧ v8 = zVal ∧ up = u.cells)) :
    Gv Tryz.prog 9 [.agg [.sl [] [] true none, .int .i64 fuel, .int .i64 0], .sl [] [] true none, .agg addE.cells] (.agg (outCells ok v8 up steps)) := fun s => by
  refine AC.args (args' := [.agg [.sl [] [] false none, .int .i64 fuel, .int .i64 0], .sl [] [] false none, .agg addE.cells]) ?_ (Les.cons (Le.agg (Les.cons (Le.sl _ _ _ _) (Les.refl _))) (Les.cons (Le.sl _ _ _ _) (Les.refl _)))
  refine gv9 [] fuel 0 [] addE.cells (Ex.len _) ok v8 up steps hv8 hone hup huone ?_ s
  intro b s hs
  have hself : put1 s b (mcs (.sl [] [] false none) fuel 0 0 upz) = s := by
    simp only [put1]
    have e : upd s.c b (some (mcs (.sl [] [] false none) fuel 0 0 upz)) = s.c := by
      funext i
      simp only [upd]
      split
      · rename_i e; rw [e, hs]
      · rfl
    rw [e]
  have hev := ev_add b (.sl [] [] false none) fuel 0 s
  rw [hself] at hev
  refine hev.mono ?_
  intro r s' hq
  rcases h with ⟨v, ha, rfl, rfl, rfl⟩ | ⟨u, ha, rfl, rfl, rfl⟩
  · rw [ha] at hq; exact hq
  · rw [ha] at hq; exact hq

theorem Up.one (u : Up) : ∀ x ∈ u.cells, VL.one x = true := by
  cases u with
  | text t => simp [Up.cells, textCells]
  | val v =>
    simp only [Up.cells, List.mem_cons, List.mem_append, List.not_mem_nil, or_false]
    rintro x (rfl | h | rfl | rfl)
    · rfl
    · exact Val.one v x h
    · rfl
    · rfl
  | wait k => simp [Up.cells, zVal]

theorem gv16 (n : Int) : Gv Tryz.prog 16 [.int .i64 n] (.agg [.int .u8 1, .int .i64 n, .str [], .sl [] [] true none, .sl [] [] true none, .sl [] [] true none, .int .u8 0, .sl [] [] true none, .sl [] [] true none, .str []]) := fun s => ac16 (by simp) (by
  simp [sc16])

end Go.Proofs.YthjjlmkooofdiaaGreatDoor
