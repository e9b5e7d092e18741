/-
  a part of the proof: the texts VlQ, VlS, VlT, VlU, VlV, VlW, VlX, VlY, joined: helper laws; none of them is the statement.
-/
import Derived.Test.YthjjlmkooofdiaaGreatDoorVl08
import Derived.Test.YthjjlmkooofdiaaGreatDoorVl07

/-
  VlQ: how much things have in them: sums over lists.
-/
namespace Go.Proofs.YthjjlmkooofdiaaGreatDoor
open Go Go.VL

/-- a sum over a list, with an early end. -/
def runSum : Int → List Int → Int
  | n, [] => n
  | n, g :: gs => if n ≤ 1048576 then runSum (IntKind.i64.wrap (n + g)) gs else n

def scSum (sz f : Nat) : SC :=
  (.seq (.reg [.pf 2 (.mv (.k (.int .i64 0)))])
  (.seq (.reg [.pf 5 (.mv (.t 0)),
    .pf 6 (.len false (.t 5)),
    .pf 3 (.mv (.t 6))])
  (.seq (.seq (.reg [.pf 4 (.mv (.k (.int .i64 0)))])
  (.block 0
    (.loop
      (.seq (.seq (.reg [.pf 7 (.mv (.t 4)),
        .pf 8 (.mv (.t 0)),
        .pf 9 (.len false (.t 8)),
        .pf 10 (.bin .lss (.t 7) (.t 9)),
        .pf 11 (.mv (.t 10)),
        .gd 11 true [.pf 12 (.mv (.t 3))],
        .gd 11 true [.pf 13 (.bin .leq (.t 12) (.k (.int .i64 1048576)))],
        .pf 14 (.pick (.t 11) (.t 13) (.k (.bool false)))])
      (.cond (.t 14)
        .skip
        (.exit 0)))
      (.seq (.block 1
        (.reg [.pf 17 (.mv (.t 3)),
          .pf 18 (.mv (.t 0)),
          .pf 19 (.mv (.t 4)),
          .pf 20 (.ia (.t 18) (.t 19) sz),
          .pf 21 (.ld false (.t 20) sz true),
          .call (some 22) f [(.t 21)],
          .pf 23 (.bin .add (.t 17) (.t 22)),
          .pf 3 (.mv (.t 23))]))
      (.reg [.pf 15 (.mv (.t 4)),
        .pf 16 (.bin .add (.t 15) (.k (.int .i64 1))),
        .pf 4 (.mv (.t 16))]))))))
  (.seq (.reg [.pf 24 (.mv (.t 3)),
    .pf 2 (.mv (.t 24))])
  .ret))))

/-- what every loop of this kind comes to. -/
theorem sum_walk {P : Program} {sz f : Nat} {xs : List (List V)} {gs : List Int} (hl : gs.length = xs.length)
    (hg : ∀ (i : Nat) (x : List V) (g : Int), xs[i]? = some x → gs[i]? = some g → x.length = sz ∧ Gv P f [.agg x] (.int .i64 g)) (s : H) :
    wpS P (scSum sz f) (bodyQ [.t 2] fun r s' => r = .int .i64 (runSum xs.length gs) ∧ s' = s) (initT [.sl xs [] false none]) (fun _ => (0, [])) s := by
  simp [scSum]
  intro htop
  refine ⟨fun n T L s' => ∃ i acc, i ≤ xs.length ∧ n = xs.length - i ∧ T 0 = .sl xs [] false none ∧ T 4 = .int .i64 (i : Nat) ∧ T 3 = .int .i64 acc ∧ s' = s ∧ runSum acc (gs.drop i) = runSum xs.length gs, ?_, ?_⟩
  · exact ⟨xs.length, 0, xs.length, by simp, by simp, by simp, by simp, by simp, rfl, by simp⟩
  · rintro n T L s' ⟨i, acc, hi, rfl, h0, h4, h3, rfl, hrun⟩
    simp [h0, h4, h3, htop]
    by_cases hlt : i < xs.length
    · obtain ⟨g, hgi⟩ : ∃ g, gs[i]? = some g := ⟨_, List.getElem?_eq_getElem (by omega)⟩
      have hxi : xs[i]? = some xs[i] := List.getElem?_eq_getElem hlt
      have hdrop : gs.drop i = g :: gs.drop (i + 1) := by
        rw [List.drop_eq_getElem_cons (by omega)]
        have := (List.getElem?_eq_some_iff.1 hgi).2
        rw [this]
      rw [hdrop] at hrun
      simp only [runSum] at hrun
      obtain ⟨hsz, hgv⟩ := hg i _ g hxi hgi
      by_cases hm : acc ≤ 1048576
      · rw [if_pos hm] at hrun
        have hm' : ¬ 1048576 < acc := by omega
        simp [hlt, hm, hsz]
        have ht : List.take sz xs[i] = xs[i] := by rw [← hsz, List.take_length]
        try rw [ht]
        refine (hgv s').mono ?_
        rintro r s'' ⟨rfl, rfl⟩
        simp
        exact ⟨xs.length - (i + 1), by omega, i + 1, by omega, rfl, wrap_succ i (by omega), hrun⟩
      · rw [if_neg hm] at hrun
        have hm' : 1048576 < acc := by omega
        simp [hlt, hm]
        exact hrun
    · have : i = xs.length := by omega
      subst this
      rw [List.drop_eq_nil_of_le (by omega)] at hrun
      simp only [runSum] at hrun
      simp [hrun]

end Go.Proofs.YthjjlmkooofdiaaGreatDoor

/-
  VlS: how much there is, told for every thing: some number comes back, and nothing is turned.
-/
namespace Go.Proofs.YthjjlmkooofdiaaGreatDoor
open Go Go.VL

/-- a number comes back, and nothing is turned. -/
def Num (f : Nat) (v : V) : Prop := ∃ g : Int, Gv Tryz.prog f [v] (.int .i64 g)

theorem num_list {α : Type} {F f sz : Nat} {cells : α → List V} (hlen : ∀ x, (cells x).length = sz) (hF : ∀ (xs : List (List V)) (s : H) (Q : V → H → Prop), wpS Tryz.prog (scSum sz f) (bodyQ [.t 2] Q) (initT [.sl xs [] false none]) (fun _ => (0, [])) s → AC Tryz.prog F [.sl xs [] false none] s Q)
    (l : List α) (h : ∀ x ∈ l, Num f (.agg (cells x))) : Num F (.sl (l.map cells) [] false none) := by
  obtain ⟨gs, h1, h2⟩ := sums_of hlen l h
  exact ⟨runSum (l.map cells).length gs, fun s => hF _ _ _ (sum_walk h1 h2 s)⟩

theorem sum60 (xs : List (List V)) (s : H) (Q : V → H → Prop) (h : wpS Tryz.prog (scSum 8 30) (bodyQ [.t 2] Q) (initT [.sl xs [] false none]) (fun _ => (0, [])) s) : AC Tryz.prog 60 [.sl xs [] false none] s Q := ac60 (by simp) h
theorem sum13 (xs : List (List V)) (s : H) (Q : V → H → Prop) (h : wpS Tryz.prog (scSum 9 22) (bodyQ [.t 2] Q) (initT [.sl xs [] false none]) (fun _ => (0, [])) s) : AC Tryz.prog 13 [.sl xs [] false none] s Q := ac13 (by simp) h
theorem sum15 (xs : List (List V)) (s : H) (Q : V → H → Prop) (h : wpS Tryz.prog (scSum 10 14) (bodyQ [.t 2] Q) (initT [.sl xs [] false none]) (fun _ => (0, [])) s) : AC Tryz.prog 15 [.sl xs [] false none] s Q := ac15 (by simp) h
theorem sum24 (xs : List (List V)) (s : H) (Q : V → H → Prop) (h : wpS Tryz.prog (scSum 12 31) (bodyQ [.t 2] Q) (initT [.sl xs [] false none]) (fun _ => (0, [])) s) : AC Tryz.prog 24 [.sl xs [] false none] s Q := ac24 (by simp) h
theorem sum12 (xs : List (List V)) (s : H) (Q : V → H → Prop) (h : wpS Tryz.prog (scSum 10 21) (bodyQ [.t 2] Q) (initT [.sl xs [] false none]) (fun _ => (0, [])) s) : AC Tryz.prog 12 [.sl xs [] false none] s Q := ac12 (by simp) h

/-- and once more, if it is not enough yet. -/
def more (n g : Int) : Int := if n ≤ 1048576 then IntKind.i64.wrap (n + g) else n

theorem num22 (name : List UInt8) (v : Val) (h : Num 30 (.agg v.cells)) : Num 22 (.agg (.str name :: v.cells)) := by
  obtain ⟨g, hg⟩ := h
  refine ⟨more (IntKind.i64.wrap (1 + name.length)) g, fun s => ac22 (by simp) ?_⟩
  have hl := v.len
  simp [sc22, hl]
  split
  · rename_i hm
    have ht : List.take 8 v.cells = v.cells := by rw [← hl, List.take_length]
    rw [ht]
    refine (hg s).mono ?_
    rintro r s' ⟨rfl, rfl⟩
    simp [more, hm]
  · rename_i hm
    have : ¬ IntKind.i64.wrap (1 + (name.length : Int)) ≤ 1048576 := by omega
    simp [more, this]

/-- a list of texts. -/
theorem num23 (l : List (List UInt8)) : Num 23 (.sl (txtRows l) [] false none) := by
  refine ⟨runSum l.length (l.map fun t => (t.length : Int)), fun s => ac23 (by simp) ?_⟩
  have hrow : ∀ i : Nat, (txtRows l)[i]? = (l[i]?).map fun t => [V.str t] := by intro i; simp [txtRows]
  have hlen : (txtRows l).length = l.length := by simp [txtRows]
  simp [sc23, hlen]
  intro htop
  refine ⟨fun n T L s' => ∃ i acc, i ≤ l.length ∧ n = l.length - i ∧ T 0 = .sl (txtRows l) [] false none ∧ T 4 = .int .i64 (i : Nat) ∧ T 3 = .int .i64 acc ∧ s' = s ∧ runSum acc ((l.map fun t => (t.length : Int)).drop i) = runSum l.length (l.map fun t => (t.length : Int)), ?_, ?_⟩
  · exact ⟨l.length, 0, l.length, by simp, by simp, by simp, by simp, by simp, rfl, by simp⟩
  · rintro n T L s' ⟨i, acc, hi, rfl, h0, h4, h3, rfl, hrun⟩
    simp [h0, h4, h3, htop, hlen]
    by_cases hlt : i < l.length
    · have hdrop : (l.map fun t => (t.length : Int)).drop i = (l[i].length : Int) :: (l.map fun t => (t.length : Int)).drop (i + 1) := by
        rw [List.drop_eq_getElem_cons (by simpa using hlt)]
        simp
      rw [hdrop] at hrun
      simp only [runSum] at hrun
      have hli : l[i]? = some l[i] := List.getElem?_eq_getElem hlt
      by_cases hm : acc ≤ 1048576
      · rw [if_pos hm] at hrun
        have hm' : ¬ 1048576 < acc := by omega
        simp [hlt, hm, hrow]
        exact ⟨l.length - (i + 1), by omega, i + 1, by omega, rfl, wrap_succ i (by omega), hrun⟩
      · rw [if_neg hm] at hrun
        have hm' : 1048576 < acc := by omega
        simp [hlt, hm]
        exact hrun
    · have : i = l.length := by omega
      subst this
      rw [List.drop_eq_nil_of_le (by simp)] at hrun
      simp only [runSum] at hrun
      simp [hrun]

theorem num30 (k n : Int) (t : List UInt8) (l : List Val) (f : List Fld) (el : Int) (key : List UInt8) (has : Bool) (hl : Num 60 (.sl (Val.rows l) [] false none)) (hf : Num 13 (.sl (Fld.rows f) [] false none)) :
    Num 30 (.agg (Val.mk k n t l f el key has).cells) := by
  obtain ⟨a, ha⟩ := hl
  obtain ⟨b, hb⟩ := hf
  refine ⟨more (more (IntKind.i64.wrap (IntKind.i64.wrap (1 + t.length) + key.length)) a) b, fun s => ac30 (by simp) ?_⟩
  generalize hn0 : IntKind.i64.wrap (IntKind.i64.wrap (1 + t.length) + key.length) = n0
  simp only [sc30]
  refine wpS_cut (fun T L s' => T 1 = .lp 1 1 0 ∧ L 1 = (1, (Val.mk k n t l f el key has).cells) ∧ s' = s) (by simp [Val.cells]) ?_
  rintro T L s' ⟨h1, hL, rfl⟩
  refine wpS_cut (fun T L s'' => T 1 = .lp 1 1 0 ∧ L 1 = (1, (Val.mk k n t l f el key has).cells) ∧ s'' = s' ∧ T 3 = .int .i64 n0) (by simp [h1, hL, Val.cells, hn0]) ?_
  rintro T L s'' ⟨h1, hL, rfl, h3⟩
  refine wpS_cut (fun T L s' => T 1 = .lp 1 1 0 ∧ L 1 = (1, (Val.mk k n t l f el key has).cells) ∧ s' = s'' ∧ T 3 = .int .i64 (more n0 a)) ?_ ?_
  · simp [h1, hL, h3, Val.cells]
    split
    · rename_i hm
      refine (ha s'').mono ?_
      rintro r s' ⟨rfl, rfl⟩; simp [more, hm]
    · rename_i hm
      have : ¬ n0 ≤ 1048576 := by omega
      simp [more, this]
  rintro T L s' ⟨h1, hL, rfl, h3⟩
  refine wpS_cut (fun T L s'' => s'' = s' ∧ T 3 = .int .i64 (more (more n0 a) b)) ?_ ?_
  · generalize more n0 a = n1 at h3 ⊢
    simp [h1, hL, h3, Val.cells]
    split
    · rename_i hm
      refine (hb s').mono ?_
      rintro r s'' ⟨rfl, rfl⟩; simp [more, hm]
    · rename_i hm
      have : ¬ n1 ≤ 1048576 := by omega
      simp [more, this]
  rintro T L s'' ⟨rfl, h3⟩
  simp [h3]

theorem num14 (k n : Int) (t : List UInt8) (args : List Ex) (names : List (List UInt8)) (vals : List Ex) (el : Int) (key : List Ex) (acts : List Ac) (site : List UInt8) (h1 : Num 15 (.sl (Ex.rows args) [] false none))
    (h2 : Num 15 (.sl (Ex.rows vals) [] false none)) (h3 : Num 15 (.sl (Ex.rows key) [] false none)) (h4 : Num 24 (.sl (Ac.rows acts) [] false none)) : Num 14 (.agg (Ex.mk k n t args names vals el key acts site).cells) := by
  obtain ⟨g1, c1⟩ := h1
  obtain ⟨g2, c2⟩ := num23 names
  obtain ⟨g3, c3⟩ := h2
  obtain ⟨g4, c4⟩ := h3
  obtain ⟨g5, c5⟩ := h4
  refine ⟨more (more (more (more (more (IntKind.i64.wrap (IntKind.i64.wrap (1 + t.length) + site.length)) g1) g2) g3) g4) g5, fun s => ac14 (by simp) ?_⟩
  generalize hn0 : IntKind.i64.wrap (IntKind.i64.wrap (1 + t.length) + site.length) = n0
  simp only [sc14]
  refine wpS_cut (fun T L s' => T 1 = .lp 1 1 0 ∧ L 1 = (1, (Ex.mk k n t args names vals el key acts site).cells) ∧ s' = s) (by simp [Ex.cells]) ?_
  rintro T L s0 ⟨h1, hL, rfl⟩
  refine wpS_cut (fun T L s' => T 1 = .lp 1 1 0 ∧ L 1 = (1, (Ex.mk k n t args names vals el key acts site).cells) ∧ s' = s0 ∧ T 3 = .int .i64 n0) (by simp [h1, hL, Ex.cells, hn0]) ?_
  rintro T L s1 ⟨h1, hL, rfl, h3⟩
  refine wpS_cut (fun T L s' => T 1 = .lp 1 1 0 ∧ L 1 = (1, (Ex.mk k n t args names vals el key acts site).cells) ∧ s' = s1 ∧ T 3 = .int .i64 (more n0 g1)) ?_ ?_
  · generalize n0 = n1 at h3 ⊢
    simp [h1, hL, h3, Ex.cells]
    split
    · rename_i hm
      refine (c1 s1).mono ?_
      rintro r s' ⟨rfl, rfl⟩; simp [more, hm]
    · rename_i hm
      have : ¬ n1 ≤ 1048576 := by omega
      simp [more, this]
  rintro T L s2 ⟨h1, hL, rfl, h3⟩
  refine wpS_cut (fun T L s' => T 1 = .lp 1 1 0 ∧ L 1 = (1, (Ex.mk k n t args names vals el key acts site).cells) ∧ s' = s2 ∧ T 3 = .int .i64 (more (more n0 g1) g2)) ?_ ?_
  · generalize (more n0 g1) = n1 at h3 ⊢
    simp [h1, hL, h3, Ex.cells]
    split
    · rename_i hm
      refine (c2 s2).mono ?_
      rintro r s' ⟨rfl, rfl⟩; simp [more, hm]
    · rename_i hm
      have : ¬ n1 ≤ 1048576 := by omega
      simp [more, this]
  rintro T L s3 ⟨h1, hL, rfl, h3⟩
  refine wpS_cut (fun T L s' => T 1 = .lp 1 1 0 ∧ L 1 = (1, (Ex.mk k n t args names vals el key acts site).cells) ∧ s' = s3 ∧ T 3 = .int .i64 (more (more (more n0 g1) g2) g3)) ?_ ?_
  · generalize (more (more n0 g1) g2) = n1 at h3 ⊢
    simp [h1, hL, h3, Ex.cells]
    split
    · rename_i hm
      refine (c3 s3).mono ?_
      rintro r s' ⟨rfl, rfl⟩; simp [more, hm]
    · rename_i hm
      have : ¬ n1 ≤ 1048576 := by omega
      simp [more, this]
  rintro T L s4 ⟨h1, hL, rfl, h3⟩
  refine wpS_cut (fun T L s' => T 1 = .lp 1 1 0 ∧ L 1 = (1, (Ex.mk k n t args names vals el key acts site).cells) ∧ s' = s4 ∧ T 3 = .int .i64 (more (more (more (more n0 g1) g2) g3) g4)) ?_ ?_
  · generalize (more (more (more n0 g1) g2) g3) = n1 at h3 ⊢
    simp [h1, hL, h3, Ex.cells]
    split
    · rename_i hm
      refine (c4 s4).mono ?_
      rintro r s' ⟨rfl, rfl⟩; simp [more, hm]
    · rename_i hm
      have : ¬ n1 ≤ 1048576 := by omega
      simp [more, this]
  rintro T L s5 ⟨h1, hL, rfl, h3⟩
  refine wpS_cut (fun T L s' => T 1 = .lp 1 1 0 ∧ L 1 = (1, (Ex.mk k n t args names vals el key acts site).cells) ∧ s' = s5 ∧ T 3 = .int .i64 (more (more (more (more (more n0 g1) g2) g3) g4) g5)) ?_ ?_
  · generalize (more (more (more (more n0 g1) g2) g3) g4) = n1 at h3 ⊢
    simp [h1, hL, h3, Ex.cells]
    split
    · rename_i hm
      refine (c5 s5).mono ?_
      rintro r s' ⟨rfl, rfl⟩; simp [more, hm]
    · rename_i hm
      have : ¬ n1 ≤ 1048576 := by omega
      simp [more, this]
  rintro T L s6 ⟨h1, hL, rfl, h3⟩
  simp [h3]

theorem num31 (k : Int) (name : List UInt8) (e : Ex) (h : Num 14 (.agg e.cells)) : Num 31 (.agg (Ac.mk k name e).cells) := by
  obtain ⟨g, hg⟩ := h
  refine ⟨more (IntKind.i64.wrap (1 + name.length)) g, fun s => ac31 (by simp) ?_⟩
  have hl := e.len
  simp [sc31, hl, Ac.cells]
  split
  · rename_i hm
    have ht : List.take 10 e.cells = e.cells := by rw [← hl, List.take_length]
    rw [ht]
    refine (hg s).mono ?_
    rintro r s' ⟨rfl, rfl⟩
    simp [more, hm]
  · rename_i hm
    have : ¬ IntKind.i64.wrap (1 + (name.length : Int)) ≤ 1048576 := by omega
    simp [more, this]

theorem num21 (x : Rs) (h : Num 30 (.agg x.v.cells)) : Num 21 (.agg x.cells) := by
  obtain ⟨g, hg⟩ := h
  refine ⟨more (IntKind.i64.wrap (1 + x.key.length)) g, fun s => ac21 (by simp) ?_⟩
  have hl := x.v.len
  simp [sc21, hl, Rs.cells]
  split
  · rename_i hm
    have ht : List.take 8 x.v.cells = x.v.cells := by rw [← hl, List.take_length]
    rw [ht]
    refine (hg s).mono ?_
    rintro r s' ⟨rfl, rfl⟩
    simp [more, hm]
  · rename_i hm
    have : ¬ IntKind.i64.wrap (1 + (x.key.length : Int)) ≤ 1048576 := by omega
    simp [more, this]

mutual
theorem val_num : ∀ v : Val, Num 30 (.agg v.cells)
  | .mk k n s l f el key has => num30 k n s l f el key has (by rw [Val.rows_eq]; exact num_list Val.len sum60 l (vals_num l)) (by rw [Fld.rows_eq]; exact num_list Fld.len sum13 f (flds_num f))
theorem vals_num : ∀ l : List Val, ∀ x ∈ l, Num 30 (.agg x.cells)
  | [], x, h => by cases h
  | v :: l, x, h => by
    rcases List.mem_cons.1 h with e | h
    · rw [e]; exact val_num v
    · exact vals_num l x h
theorem fld_num : ∀ v : Fld, Num 22 (.agg v.cells)
  | .mk name v => by simp only [Fld.cells]; exact num22 name v (val_num v)
theorem flds_num : ∀ l : List Fld, ∀ x ∈ l, Num 22 (.agg x.cells)
  | [], x, h => by cases h
  | v :: l, x, h => by
    rcases List.mem_cons.1 h with e | h
    · rw [e]; exact fld_num v
    · exact flds_num l x h
end

mutual
theorem ex_num : ∀ e : Ex, Num 14 (.agg e.cells)
  | .mk k n s args names vals el key acts site => num14 k n s args names vals el key acts site (by rw [Ex.rows_eq]; exact num_list Ex.len sum15 args (exs_num args)) (by rw [Ex.rows_eq]; exact num_list Ex.len sum15 vals (exs_num vals))
      (by rw [Ex.rows_eq]; exact num_list Ex.len sum15 key (exs_num key)) (by rw [Ac.rows_eq]; exact num_list Ac.len sum24 acts (acs_num acts))
theorem exs_num : ∀ l : List Ex, ∀ x ∈ l, Num 14 (.agg x.cells)
  | [], x, h => by cases h
  | v :: l, x, h => by
    rcases List.mem_cons.1 h with e | h
    · rw [e]; exact ex_num v
    · exact exs_num l x h
theorem ac_num : ∀ v : Ac, Num 31 (.agg v.cells)
  | .mk k name e => num31 k name e (ex_num e)
theorem acs_num : ∀ l : List Ac, ∀ x ∈ l, Num 31 (.agg x.cells)
  | [], x, h => by cases h
  | v :: l, x, h => by
    rcases List.mem_cons.1 h with e | h
    · rw [e]; exact ac_num v
    · exact acs_num l x h
end

theorem rows_num (l : List Rs) : Num 12 (.sl (l.map Rs.cells) [] false none) := num_list Rs.len sum12 l fun x _ => num21 x (val_num x.v)
theorem flds_num' (l : List Fld) : Num 13 (.sl (Fld.rows l) [] false none) := by rw [Fld.rows_eq]; exact num_list Fld.len sum13 l (flds_num l)
theorem exs_num' (l : List Ex) : Num 15 (.sl (Ex.rows l) [] false none) := by rw [Ex.rows_eq]; exact num_list Ex.len sum15 l (exs_num l)

end Go.Proofs.YthjjlmkooofdiaaGreatDoor

/-
  VlT: copies of lists: what the statements make of what comes in.
-/
namespace Go.Proofs.YthjjlmkooofdiaaGreatDoor
open Go Go.VL

def scTwin (sz f off : Nat) (zl : List V) : SC :=
  (.seq (.reg [.pf 2 (.mv (.k (.sl [] [] true none)))])
  (.seq (.reg [.pf 5 (.mv (.t 0)),
    .pf 6 (.len false (.t 5)),
    .pf 7 (.bin .add (.t 6) (.k (.int .i64 1))),
    .mksl 8 sz (.t 7),
    .pf 3 (.mv (.t 8))])
  (.seq (.seq (.reg [.pf 4 (.mv (.k (.int .i64 0)))])
  (.block 0
    (.loop
      (.seq (.seq (.reg [.pf 9 (.mv (.t 4)),
        .pf 10 (.mv (.t 0)),
        .pf 11 (.len false (.t 10)),
        .pf 12 (.bin .lss (.t 9) (.t 11))])
      (.cond (.t 12)
        .skip
        (.exit 0)))
      (.seq (.block 1
        (.reg [.pf 15 (.mv (.t 3)),
          .pf 16 (.mv (.t 0)),
          .pf 17 (.mv (.t 4)),
          .pf 18 (.ia (.t 16) (.t 17) sz),
          .pf 19 (.ld false (.t 18) sz true),
          .call (some 20) f [(.t 19)],
          .bsl 21 1 sz zl [(0, (.t 20))],
          .app 22 sz (.t 15) (.t 21),
          .pf 3 (.mv (.t 22))]))
      (.reg [.pf 13 (.mv (.t 4)),
        .pf 14 (.bin .add (.t 13) (.k (.int .i64 1))),
        .pf 4 (.mv (.t 14))]))))))
  (.seq (.reg [.pf 23 (.mv (.t 3)),
    .pf 24 (.build zl [(off, 1, (.k (.str [115, 112, 97, 114, 101])))]),
    .bsl 25 1 sz zl [(0, (.t 24))],
    .app 26 sz (.t 23) (.t 25),
    .pf 27 (.mv (.t 0)),
    .pf 28 (.len false (.t 27)),
    .pf 29 (.slc false (.t 26) none (some (.t 28)) none sz),
    .pf 2 (.mv (.t 29))])
  .ret))))

theorem fill_all (zl x : List V) (h : x.length = zl.length) : fillV ((List.replicate 1 zl).flatten) [(0 * zl.length, zl.length, .agg x)] = some x := by
  simp [h]

/-- with a frontier, at some block. -/
def fr (s : H) (b : Nat) (x : Nat × Nat) : H := { s with f := upd s.f b (some x) }

theorem fr_again {s : H} {b : Nat} {x y : Nat × Nat} : ({ (fr s b x) with f := upd (upd (fr s b x).f b none) b (some y) } : H) = fr s b y := by
  simp only [fr]
  congr 1
  funext i
  simp only [upd]
  split <;> rfl

theorem fr_anew {s : H} {b b' : Nat} {x y : Nat × Nat} (hb : s.f b = none) : ({ (fr s b x) with f := upd (upd (fr s b x).f b none) b' (some y) } : H) = fr s b' y := by
  simp only [fr]
  congr 1
  funext i
  simp only [upd]
  split
  · rfl
  · split
    · rename_i e; rw [e, hb]
    · rfl

theorem fr_le {s : H} {b : Nat} {x : Nat × Nat} (hb : s.f b = none) : H.le s (fr s b x) :=
  ⟨fun _ _ h => h, fun b' y h => by
    simp only [fr, upd]
    split
    · rename_i e; subst e; rw [hb] at h; cases h
    · exact h, fun _ h => h, fun _ _ h => h⟩

/-- what a loop of this kind comes to. -/
theorem twin_walk {P : Program} {sz f off : Nat} {zl sc : List V} {xs : List (List V)} (hz : zl.length = sz) (hpos : 0 < sz) (hsc : fillV zl [(off, 1, .str [115, 112, 97, 114, 101])] = some sc) (hsl : sc.length = sz) (hso : ∀ v ∈ sc, one v = true)
    (hx : ∀ x ∈ xs, x.length = sz ∧ (∀ v ∈ x, one v = true) ∧ Gv P f [.agg x] (.agg x)) (hroom : (xs.length + 1) * 1024 ≤ 140737488355328) (s : H) :
    wpS P (scTwin sz f off zl) (bodyQ [.t 2] fun r s' => ∃ b x t, s.c b = none ∧ s.f b = none ∧ s' = fr s b x ∧ r = .sl xs [sc] false t) (initT [.sl xs [] false none]) (fun _ => (0, [])) s := by
  have hw : IntKind.i64.wrap ((xs.length : Int) + 1) = ((xs.length + 1 : Nat) : Int) := wrap_succ _ (by unfold top; omega)
  subst hz
  simp only [scTwin]
  refine wpS_cut (fun T L s' => T 0 = .sl xs [] false none ∧ s' = s) (by simp) ?_
  rintro T L s0 ⟨h0, rfl⟩
  refine wpS_cut (fun T L s' => T 0 = .sl xs [] false none ∧ ∃ b c, s0.c b = none ∧ s0.f b = none ∧ T 3 = .sl [] [] false (some (b, c)) ∧ s' = fr s0 b (0, c * zl.length)) ?_ ?_
  · simp [h0, hw]
    intro htop
    have h1 : (0 : Int) ≤ (xs.length : Int) + 1 := by omega
    simp [h1]
    refine ⟨by omega, fun b h1 h2 => ⟨b, h1, h2, _, ⟨rfl, rfl⟩, ?_⟩⟩
    have : ((xs.length : Int) + 1).toNat = xs.length + 1 := by omega
    simp [fr]
  rintro T L s' ⟨h0, b, c, hb1, hb2, h3, rfl⟩
  refine wpS_cut (fun T L s' => T 0 = .sl xs [] false none ∧ ∃ b c, s0.c b = none ∧ s0.f b = none ∧ T 3 = .sl xs [] false (some (b, c)) ∧ s' = fr s0 b (xs.length * zl.length, c * zl.length)) ?_ ?_
  · simp
    refine ⟨fun n T L s' => ∃ i b c, i ≤ xs.length ∧ n = xs.length - i ∧ T 0 = .sl xs [] false none ∧ T 4 = .int .i64 (i : Nat) ∧ s0.c b = none ∧ s0.f b = none ∧ T 3 = .sl (xs.take i) [] false (some (b, c)) ∧ s' = fr s0 b (i * zl.length, c * zl.length), ?_, ?_⟩
    · exact ⟨xs.length, 0, b, c, by simp, by simp, by simp [h0], by simp, hb1, hb2, by simp [h3], by simp⟩
    · rintro n T L s' ⟨i, b, c, hi, rfl, h0, h4, hb1, hb2, h3, rfl⟩
      simp [h0, h4, h3]
      intro htop
      by_cases hlt : i < xs.length
      · obtain ⟨hxl, hxo, hxg⟩ := hx xs[i] (List.getElem_mem _)
        have ht : List.take zl.length xs[i] = xs[i] := by rw [← hxl, List.take_length]
        have hxl' : ∀ x ∈ xs.take i, x.length = zl.length := fun x h => (hx x (List.mem_of_mem_take h)).1
        simp [hlt, hxl, ht]
        refine (hxg _).mono ?_
        rintro r s' ⟨rfl, rfl⟩
        have hmin : min i xs.length = i := by omega
        have hlen1 : (xs.take i ++ [xs[i]]).length = i + 1 := by simp; omega
        have htk : xs.take i ++ [xs[i]] = xs.take (i + 1) := by rw [List.take_succ_eq_append_getElem hlt]
        simp [hxl, chunks, ht, hmin, htk]
        refine ⟨hxo, hxl', Nat.le_trans (Nat.mul_le_mul_right _ (by omega)) hroom, b, c, ⟨rfl, rfl⟩, by simp [fr], ?_⟩
        · rintro b' c' hbc
          refine ⟨xs.length - (i + 1), by omega, i + 1, by omega, rfl, wrap_succ i (by omega), b', ?_⟩
          rcases hbc with ⟨rfl, rfl⟩ | ⟨q1, q2⟩
          · exact ⟨hb1, hb2, c', ⟨rfl, rfl, rfl⟩, fr_again⟩
          · have hne : b' ≠ b := by
              rintro rfl; simp [fr] at q2
            have q2' : s0.f b' = none := by simpa [fr, upd, hne] using q2
            exact ⟨by simpa [fr] using q1, q2', c', ⟨rfl, rfl, rfl⟩, fr_anew hb2⟩
      · have : i = xs.length := by omega
        subst this
        simp
        exact ⟨b, hb1, hb2, c, ⟨rfl, rfl⟩, rfl⟩
  rintro T L s' ⟨h0, b, c, hb1, hb2, h3, rfl⟩
  have hts : List.take zl.length sc = sc := by rw [← hsl, List.take_length]
  have hxl' : ∀ x ∈ xs, x.length = zl.length := fun x h => (hx x h).1
  simp at hsc
  obtain ⟨hoff, hsc⟩ := hsc
  simp [h0, h3, hoff, hsc, hsl, hts, chunks]
  refine ⟨hso, hxl', hroom, b, c, ⟨rfl, rfl⟩, by simp [fr], ?_⟩
  intro b' c' hbc htop
  refine ⟨?_, b', ?_⟩
  · intro y hy
    simp at hy
    rcases hy with hy | rfl
    · exact hxl' y hy
    · exact hsl
  · rcases hbc with ⟨rfl, rfl⟩ | ⟨q1, q2⟩
    · exact ⟨hb1, hb2, _, _, fr_again⟩
    · have hne : b' ≠ b := by
        rintro rfl; simp [fr] at q2
      have q2' : s0.f b' = none := by simpa [fr, upd, hne] using q2
      exact ⟨by simpa [fr] using q1, q2', _, _, fr_anew hb2⟩

/-- copies of a list: the list, and nothing is turned. -/
theorem twin_list {α : Type} {F f sz off : Nat} {zl sc : List V} {cells : α → List V} (hz : zl.length = sz) (hpos : 0 < sz) (hsc : fillV zl [(off, 1, .str [115, 112, 97, 114, 101])] = some sc) (hsl : sc.length = sz) (hso : ∀ v ∈ sc, one v = true)
    (hF : ∀ (xs : List (List V)) (s : H) (Q : V → H → Prop), wpS Tryz.prog (scTwin sz f off zl) (bodyQ [.t 2] Q) (initT [.sl xs [] false none]) (fun _ => (0, [])) s → AC Tryz.prog F [.sl xs [] false none] s Q)
    (hlen : ∀ x, (cells x).length = sz) (hone : ∀ x, ∀ v ∈ cells x, one v = true) (l : List α) (hroom : (l.length + 1) * 1024 ≤ 140737488355328) (h : ∀ x ∈ l, Gv Tryz.prog f [.agg (cells x)] (.agg (cells x))) :
    Gv Tryz.prog F [.sl (l.map cells) [] false none] (.sl (l.map cells) [] false none) := fun s =>
  (hF _ _ _ (twin_walk hz hpos hsc hsl hso (fun x hx => by
    obtain ⟨a, ha, rfl⟩ := List.mem_map.1 hx
    exact ⟨hlen a, hone a, h a ha⟩) (by simpa using hroom) s)).weak fun r s' ⟨b, x, t, _, h2, e1, e2⟩ => ⟨_, s, by rw [e2]; exact Le.sl _ _ _ _, by rw [e1]; exact fr_le h2, rfl, rfl⟩

def zVal : List V := [.int .u8 0, .int .i64 0, .str [], .sl [] [] true none, .sl [] [] true none, .int .u8 0, .str [], .bool false]
theorem twin61 (xs : List (List V)) (s : H) (Q : V → H → Prop) (h : wpS Tryz.prog (scTwin 8 32 2 zVal) (bodyQ [.t 2] Q) (initT [.sl xs [] false none]) (fun _ => (0, [])) s) : AC Tryz.prog 61 [.sl xs [] false none] s Q := ac61 (by simp) h
theorem twin62 (xs : List (List V)) (s : H) (Q : V → H → Prop) (h : wpS Tryz.prog (scTwin 9 78 0 (.str [] :: zVal)) (bodyQ [.t 2] Q) (initT [.sl xs [] false none]) (fun _ => (0, [])) s) : AC Tryz.prog 62 [.sl xs [] false none] s Q := ac62 (by simp) h
theorem twin17 (xs : List (List V)) (s : H) (Q : V → H → Prop) (h : wpS Tryz.prog (scTwin 10 25 0 (.str [] :: .bool false :: zVal)) (bodyQ [.t 2] Q) (initT [.sl xs [] false none]) (fun _ => (0, [])) s) : AC Tryz.prog 17 [.sl xs [] false none] s Q := ac17 (by simp) h

theorem Val.one (v : Val) : ∀ x ∈ v.cells, VL.one x = true := by cases v; simp [Val.cells]
theorem Fld.one (v : Fld) : ∀ x ∈ v.cells, VL.one x = true := by
  cases v; simp only [Fld.cells, List.mem_cons]
  rintro x (rfl | h)
  · rfl
  · exact Val.one _ x h
theorem Rs.one (v : Rs) : ∀ x ∈ v.cells, VL.one x = true := by
  simp only [Rs.cells, List.mem_cons]
  rintro x (rfl | rfl | h)
  · rfl
  · rfl
  · exact Val.one _ x h

end Go.Proofs.YthjjlmkooofdiaaGreatDoor

/-
  VlU: copies of values, fields, resources; the world.
-/
namespace Go.Proofs.YthjjlmkooofdiaaGreatDoor
open Go Go.VL

mutual
/-- no list is too long to be copied. -/
def Fit : Val → Prop
  | .mk _ _ _ l f _ _ _ => l.length ≤ 1048576 ∧ f.length ≤ 1048576 ∧ Fits l ∧ FitFs f
def Fits : List Val → Prop
  | [] => True
  | v :: l => Fit v ∧ Fits l
def FitF : Fld → Prop
  | .mk _ v => Fit v
def FitFs : List Fld → Prop
  | [] => True
  | v :: l => FitF v ∧ FitFs l
end

theorem gv32 (k n : Int) (t : List UInt8) (l : List Val) (f : List Fld) (el : Int) (key : List UInt8) (has : Bool) (hl : Gv Tryz.prog 61 [.sl (Val.rows l) [] false none] (.sl (Val.rows l) [] false none))
    (hf : Gv Tryz.prog 62 [.sl (Fld.rows f) [] false none] (.sl (Fld.rows f) [] false none)) : Gv Tryz.prog 32 [.agg (Val.mk k n t l f el key has).cells] (.agg (Val.mk k n t l f el key has).cells) := fun s => ac32 (by simp) (by
  simp [sc32, Val.cells]
  refine (hl s).mono ?_
  rintro r s' ⟨rfl, rfl⟩
  simp
  refine (hf s').mono ?_
  rintro r s'' ⟨rfl, rfl⟩
  simp)

theorem gv78 (name : List UInt8) (v : Val) (h : Gv Tryz.prog 32 [.agg v.cells] (.agg v.cells)) : Gv Tryz.prog 78 [.agg (Fld.mk name v).cells] (.agg (Fld.mk name v).cells) := fun s => ac78 (by simp) (by
  have hl := v.len
  have ht : List.take 8 v.cells = v.cells := by rw [← hl, List.take_length]
  simp [sc78, Fld.cells, hl, ht]
  refine (h s).mono ?_
  rintro r s' ⟨rfl, rfl⟩
  have hone := Val.one v
  simp [hl, ht]
  exact hone)

theorem gv25 (x : Rs) (h : Gv Tryz.prog 32 [.agg x.v.cells] (.agg x.v.cells)) : Gv Tryz.prog 25 [.agg x.cells] (.agg x.cells) := fun s => ac25 (by simp) (by
  have hl := x.v.len
  have ht : List.take 8 x.v.cells = x.v.cells := by rw [← hl, List.take_length]
  simp [sc25, Rs.cells, hl, ht]
  refine (h s).mono ?_
  rintro r s' ⟨rfl, rfl⟩
  have hone := Val.one x.v
  simp [hl, ht]
  exact hone)

theorem room_of {n : Nat} (h : n ≤ 1048576) : (n + 1) * 1024 ≤ 140737488355328 := Nat.le_trans (Nat.mul_le_mul_right _ (Nat.add_le_add_right h 1)) (by decide)

theorem twin_l61 (l : List Val) (hn : l.length ≤ 1048576) (h : ∀ x ∈ l, Gv Tryz.prog 32 [.agg x.cells] (.agg x.cells)) : Gv Tryz.prog 61 [.sl (Val.rows l) [] false none] (.sl (Val.rows l) [] false none) := by
  rw [Val.rows_eq]
  exact twin_list (F := 61) (f := 32) (sz := 8) (off := 2) (zl := zVal) (sc := [.int .u8 0, .int .i64 0, .str [115, 112, 97, 114, 101], .sl [] [] true none, .sl [] [] true none, .int .u8 0, .str [], .bool false]) (cells := Val.cells)
    (by simp [zVal]) (by decide) (by simp [zVal]) (by simp) (by simp) twin61 Val.len Val.one l (room_of hn) h

theorem twin_l62 (l : List Fld) (hn : l.length ≤ 1048576) (h : ∀ x ∈ l, Gv Tryz.prog 78 [.agg x.cells] (.agg x.cells)) : Gv Tryz.prog 62 [.sl (Fld.rows l) [] false none] (.sl (Fld.rows l) [] false none) := by
  rw [Fld.rows_eq]
  exact twin_list (F := 62) (f := 78) (sz := 9) (off := 0) (zl := .str [] :: zVal) (sc := .str [115, 112, 97, 114, 101] :: zVal) (cells := Fld.cells)
    (by simp [zVal]) (by decide) (by simp [zVal]) (by simp [zVal]) (by simp [zVal]) twin62 Fld.len Fld.one l (room_of hn) h

theorem twin_l17 (l : List Rs) (hn : l.length ≤ 1048576) (h : ∀ x ∈ l, Gv Tryz.prog 25 [.agg x.cells] (.agg x.cells)) : Gv Tryz.prog 17 [.sl (l.map Rs.cells) [] false none] (.sl (l.map Rs.cells) [] false none) :=
  twin_list (F := 17) (f := 25) (sz := 10) (off := 0) (zl := .str [] :: .bool false :: zVal) (sc := .str [115, 112, 97, 114, 101] :: .bool false :: zVal) (cells := Rs.cells)
    (by simp [zVal]) (by decide) (by simp [zVal]) (by simp [zVal]) (by simp [zVal]) twin17 Rs.len Rs.one l (room_of hn) h

mutual
theorem twin_val : ∀ v : Val, Fit v → Gv Tryz.prog 32 [.agg v.cells] (.agg v.cells)
  | .mk k n s l f el key has, h => by
    simp only [Fit] at h
    exact gv32 k n s l f el key has (twin_l61 l h.1 (twin_vals l h.2.2.1)) (twin_l62 f h.2.1 (twin_flds f h.2.2.2))
theorem twin_vals : ∀ l : List Val, Fits l → ∀ x ∈ l, Gv Tryz.prog 32 [.agg x.cells] (.agg x.cells)
  | [], _, x, h => by cases h
  | v :: l, hf, x, h => by
    simp only [Fits] at hf
    rcases List.mem_cons.1 h with e | h
    · rw [e]; exact twin_val v hf.1
    · exact twin_vals l hf.2 x h
theorem twin_fld : ∀ v : Fld, FitF v → Gv Tryz.prog 78 [.agg v.cells] (.agg v.cells)
  | .mk name v, h => by simp only [FitF] at h; exact gv78 name v (twin_val v h)
theorem twin_flds : ∀ l : List Fld, FitFs l → ∀ x ∈ l, Gv Tryz.prog 78 [.agg x.cells] (.agg x.cells)
  | [], _, x, h => by cases h
  | v :: l, hf, x, h => by
    simp only [FitFs] at hf
    rcases List.mem_cons.1 h with e | h
    · rw [e]; exact twin_fld v hf.1
    · exact twin_flds l hf.2 x h
end

theorem twin_rows (l : List Rs) (hn : l.length ≤ 1048576) (h : ∀ x ∈ l, Fit x.v) : Gv Tryz.prog 17 [.sl (l.map Rs.cells) [] false none] (.sl (l.map Rs.cells) [] false none) :=
  twin_l17 l hn fun x hx => gv25 x (twin_val x.v (h x hx))

end Go.Proofs.YthjjlmkooofdiaaGreatDoor

/-
  VlV: a thing is the same as itself, told by the statements' own comparing.
-/
namespace Go.Proofs.YthjjlmkooofdiaaGreatDoor
open Go Go.VL

def scSame (sz f : Nat) : SC :=
  (.seq (.reg [.pf 4 (.mv (.k (.bool false)))])
  (.seq (.seq (.reg [.pf 6 (.mv (.t 0)),
    .pf 7 (.len false (.t 6)),
    .pf 8 (.mv (.t 1)),
    .pf 9 (.len false (.t 8)),
    .pf 10 (.bin .neq (.t 7) (.t 9))])
  (.cond (.t 10)
    (.seq (.reg [.pf 4 (.mv (.k (.bool false)))])
    .ret)
    .skip))
  (.seq (.seq (.reg [.pf 5 (.mv (.k (.int .i64 0)))])
  (.block 0
    (.loop
      (.seq (.seq (.reg [.pf 11 (.mv (.t 5)),
        .pf 12 (.mv (.t 0)),
        .pf 13 (.len false (.t 12)),
        .pf 14 (.bin .lss (.t 11) (.t 13))])
      (.cond (.t 14)
        .skip
        (.exit 0)))
      (.seq (.block 1
        (.seq (.reg [.p 17 (.mv (.t 0)),
          .p 18 (.mv (.t 5)),
          .p 19 (.ia (.t 17) (.t 18) sz),
          .p 20 (.ld false (.t 19) sz true),
          .p 21 (.mv (.t 1)),
          .p 22 (.mv (.t 5)),
          .p 23 (.ia (.t 21) (.t 22) sz),
          .p 24 (.ld false (.t 23) sz true),
          .call (some 25) f [(.t 20), (.t 24)],
          .p 26 (.not (.t 25))])
        (.cond (.t 26)
          (.seq (.reg [.pf 4 (.mv (.k (.bool false)))])
          .ret)
          .skip)))
      (.reg [.pf 15 (.mv (.t 5)),
        .pf 16 (.bin .add (.t 15) (.k (.int .i64 1))),
        .pf 5 (.mv (.t 16))]))))))
  (.seq (.reg [.pf 4 (.mv (.k (.bool true)))])
  .ret))))

theorem same_walk {P : Program} {sz f : Nat} {xs : List (List V)} (hx : ∀ x ∈ xs, x.length = sz ∧ Gv P f [.agg x, .agg x] (.bool true)) (s : H) :
    wpS P (scSame sz f) (bodyQ [.t 4] fun r s' => r = .bool true ∧ s' = s) (initT [.sl xs [] false none, .sl xs [] false none]) (fun _ => (0, [])) s := by
  simp [scSame]
  intro htop
  refine ⟨fun n T L s' => ∃ i, i ≤ xs.length ∧ n = xs.length - i ∧ T 0 = .sl xs [] false none ∧ T 1 = .sl xs [] false none ∧ T 5 = .int .i64 (i : Nat) ∧ s' = s, ?_, ?_⟩
  · exact ⟨xs.length, 0, by simp, by simp, by simp, by simp, by simp, rfl⟩
  · rintro n T L s' ⟨i, hi, rfl, h0, h1, h5, rfl⟩
    simp [h0, h1, h5, htop]
    by_cases hlt : i < xs.length
    · obtain ⟨hl, hg⟩ := hx xs[i] (List.getElem_mem _)
      have ht : List.take sz xs[i] = xs[i] := by rw [← hl, List.take_length]
      simp [hlt, hl, ht]
      refine (hg s').mono ?_
      rintro r s'' ⟨rfl, rfl⟩
      simp
      exact ⟨xs.length - (i + 1), by omega, i + 1, by omega, rfl, wrap_succ i (by omega)⟩
    · have : i = xs.length := by omega
      subst this
      simp

theorem same_list {α : Type} {F f sz : Nat} {cells : α → List V} (hlen : ∀ x, (cells x).length = sz) (hF : ∀ (xs : List (List V)) (s : H) (Q : V → H → Prop), wpS Tryz.prog (scSame sz f) (bodyQ [.t 4] Q) (initT [.sl xs [] false none, .sl xs [] false none]) (fun _ => (0, [])) s → AC Tryz.prog F [.sl xs [] false none, .sl xs [] false none] s Q)
    (l : List α) (h : ∀ x ∈ l, Gv Tryz.prog f [.agg (cells x), .agg (cells x)] (.bool true)) : Gv Tryz.prog F [.sl (l.map cells) [] false none, .sl (l.map cells) [] false none] (.bool true) := fun s =>
  hF _ _ _ (same_walk (fun x hx => by
    obtain ⟨a, ha, rfl⟩ := List.mem_map.1 hx
    exact ⟨hlen a, h a ha⟩) s)

theorem same28 (xs : List (List V)) (s : H) (Q : V → H → Prop) (h : wpS Tryz.prog (scSame 8 20) (bodyQ [.t 4] Q) (initT [.sl xs [] false none, .sl xs [] false none]) (fun _ => (0, [])) s) : AC Tryz.prog 28 [.sl xs [] false none, .sl xs [] false none] s Q := ac28 (by simp) h
theorem same29 (xs : List (List V)) (s : H) (Q : V → H → Prop) (h : wpS Tryz.prog (scSame 9 59) (bodyQ [.t 4] Q) (initT [.sl xs [] false none, .sl xs [] false none]) (fun _ => (0, [])) s) : AC Tryz.prog 29 [.sl xs [] false none, .sl xs [] false none] s Q := ac29 (by simp) h

theorem same59 (name : List UInt8) (v : Val) (h : Gv Tryz.prog 20 [.agg v.cells, .agg v.cells] (.bool true)) : Gv Tryz.prog 59 [.agg (Fld.mk name v).cells, .agg (Fld.mk name v).cells] (.bool true) := fun s => ac59 (by simp) (by
  have hl := v.len
  have ht : List.take 8 v.cells = v.cells := by rw [← hl, List.take_length]
  simp [sc59, Fld.cells, hl, ht]
  refine (h s).mono ?_
  rintro r s' ⟨rfl, rfl⟩
  simp)

theorem same20 (k n : Int) (t : List UInt8) (l : List Val) (f : List Fld) (el : Int) (key : List UInt8) (has : Bool) (hl : Gv Tryz.prog 28 [.sl (Val.rows l) [] false none, .sl (Val.rows l) [] false none] (.bool true))
    (hf : Gv Tryz.prog 29 [.sl (Fld.rows f) [] false none, .sl (Fld.rows f) [] false none] (.bool true)) : Gv Tryz.prog 20 [.agg (Val.mk k n t l f el key has).cells, .agg (Val.mk k n t l f el key has).cells] (.bool true) := fun s => ac20 (by simp) (by
  simp only [sc20]
  refine wpS_cut (fun T L s' => T 2 = .lp 2 1 0 ∧ T 3 = .lp 3 1 0 ∧ L 2 = (1, (Val.mk k n t l f el key has).cells) ∧ L 3 = (1, (Val.mk k n t l f el key has).cells) ∧ s' = s) (by simp [Val.cells]) ?_
  rintro T L s0 ⟨h2, h3, hL2, hL3, rfl⟩
  refine wpS_cut (fun T L s' => T 4 = .bool true ∧ s' = s0) ?_ (by rintro T L s' ⟨h4, rfl⟩; simp [h4])
  simp only [wpS]
  refine wpRs_cut 6 (fun T L s' => T 2 = .lp 2 1 0 ∧ T 3 = .lp 3 1 0 ∧ L 2 = (1, (Val.mk k n t l f el key has).cells) ∧ L 3 = (1, (Val.mk k n t l f el key has).cells) ∧ s' = s0 ∧ T 10 = .bool true) ?_ ?_
  · simp [h2, h3, hL2, hL3, Val.cells]
  rintro T L s1 ⟨h2, h3, hL2, hL3, rfl, hb0⟩
  simp only [List.drop]
  refine wpRs_cut 7 (fun T L s' => T 2 = .lp 2 1 0 ∧ T 3 = .lp 3 1 0 ∧ L 2 = (1, (Val.mk k n t l f el key has).cells) ∧ L 3 = (1, (Val.mk k n t l f el key has).cells) ∧ s' = s1 ∧ T 17 = .bool true) ?_ ?_
  · simp [h2, h3, hL2, hL3, Val.cells, hb0]
  rintro T L s2 ⟨h2, h3, hL2, hL3, rfl, hb1⟩
  simp only [List.drop]
  refine wpRs_cut 7 (fun T L s' => T 2 = .lp 2 1 0 ∧ T 3 = .lp 3 1 0 ∧ L 2 = (1, (Val.mk k n t l f el key has).cells) ∧ L 3 = (1, (Val.mk k n t l f el key has).cells) ∧ s' = s2 ∧ T 24 = .bool true) ?_ ?_
  · simp [h2, h3, hL2, hL3, Val.cells, hb1]
  rintro T L s3 ⟨h2, h3, hL2, hL3, rfl, hb2⟩
  simp only [List.drop]
  refine wpRs_cut 7 (fun T L s' => T 2 = .lp 2 1 0 ∧ T 3 = .lp 3 1 0 ∧ L 2 = (1, (Val.mk k n t l f el key has).cells) ∧ L 3 = (1, (Val.mk k n t l f el key has).cells) ∧ s' = s3 ∧ T 31 = .bool true) ?_ ?_
  · simp [h2, h3, hL2, hL3, Val.cells, hb2]
    refine (hl s3).mono ?_
    rintro r s' ⟨rfl, rfl⟩
    simp []
  rintro T L s4 ⟨h2, h3, hL2, hL3, rfl, hb3⟩
  simp only [List.drop]
  refine wpRs_cut 7 (fun T L s' => T 2 = .lp 2 1 0 ∧ T 3 = .lp 3 1 0 ∧ L 2 = (1, (Val.mk k n t l f el key has).cells) ∧ L 3 = (1, (Val.mk k n t l f el key has).cells) ∧ s' = s4 ∧ T 38 = .bool true) ?_ ?_
  · simp [h2, h3, hL2, hL3, Val.cells, hb3]
    refine (hf s4).mono ?_
    rintro r s' ⟨rfl, rfl⟩
    simp []
  rintro T L s5 ⟨h2, h3, hL2, hL3, rfl, hb4⟩
  simp only [List.drop]
  refine wpRs_cut 7 (fun T L s' => T 2 = .lp 2 1 0 ∧ T 3 = .lp 3 1 0 ∧ L 2 = (1, (Val.mk k n t l f el key has).cells) ∧ L 3 = (1, (Val.mk k n t l f el key has).cells) ∧ s' = s5 ∧ T 45 = .bool true) ?_ ?_
  · simp [h2, h3, hL2, hL3, Val.cells, hb4]
  rintro T L s6 ⟨h2, h3, hL2, hL3, rfl, hb5⟩
  simp only [List.drop]
  refine wpRs_cut 7 (fun T L s' => T 2 = .lp 2 1 0 ∧ T 3 = .lp 3 1 0 ∧ L 2 = (1, (Val.mk k n t l f el key has).cells) ∧ L 3 = (1, (Val.mk k n t l f el key has).cells) ∧ s' = s6 ∧ T 52 = .bool true) ?_ ?_
  · simp [h2, h3, hL2, hL3, Val.cells, hb5]
  rintro T L s7 ⟨h2, h3, hL2, hL3, rfl, hb6⟩
  simp only [List.drop]
  simp [h2, h3, hL2, hL3, Val.cells, hb6])

theorem same_l28 (l : List Val) (h : ∀ x ∈ l, Gv Tryz.prog 20 [.agg x.cells, .agg x.cells] (.bool true)) : Gv Tryz.prog 28 [.sl (Val.rows l) [] false none, .sl (Val.rows l) [] false none] (.bool true) := by
  rw [Val.rows_eq]; exact same_list (F := 28) (f := 20) (sz := 8) (cells := Val.cells) Val.len same28 l h
theorem same_l29 (l : List Fld) (h : ∀ x ∈ l, Gv Tryz.prog 59 [.agg x.cells, .agg x.cells] (.bool true)) : Gv Tryz.prog 29 [.sl (Fld.rows l) [] false none, .sl (Fld.rows l) [] false none] (.bool true) := by
  rw [Fld.rows_eq]; exact same_list (F := 29) (f := 59) (sz := 9) (cells := Fld.cells) Fld.len same29 l h

mutual
theorem same_val : ∀ v : Val, Gv Tryz.prog 20 [.agg v.cells, .agg v.cells] (.bool true)
  | .mk k n s l f el key has => same20 k n s l f el key has (same_l28 l (same_vals l)) (same_l29 f (same_flds f))
theorem same_vals : ∀ l : List Val, ∀ x ∈ l, Gv Tryz.prog 20 [.agg x.cells, .agg x.cells] (.bool true)
  | [], x, h => by cases h
  | v :: l, x, h => by
    rcases List.mem_cons.1 h with e | h
    · rw [e]; exact same_val v
    · exact same_vals l x h
theorem same_fld : ∀ v : Fld, Gv Tryz.prog 59 [.agg v.cells, .agg v.cells] (.bool true)
  | .mk name v => same59 name v (same_val v)
theorem same_flds : ∀ l : List Fld, ∀ x ∈ l, Gv Tryz.prog 59 [.agg x.cells, .agg x.cells] (.bool true)
  | [], x, h => by cases h
  | v :: l, x, h => by
    rcases List.mem_cons.1 h with e | h
    · rw [e]; exact same_fld v
    · exact same_flds l x h
end

/-- a result: its cells. -/
def resCells (k : Int) (v : Val) (key : List UInt8) (steps : Int) : List V := .int .u8 k :: v.cells ++ [.str key, .int .i64 steps]

set_option maxRecDepth 100000 in
set_option maxHeartbeats 4000000 in
theorem same_res (k : Int) (v : Val) (key : List UInt8) (steps : Int) : Gv Tryz.prog 10 [.agg (resCells k v key steps), .agg (resCells k v key steps)] (.bool true) := fun s => ac10 (by simp) (by
  have hl := v.len
  have ht : ∀ l, List.take 8 (v.cells ++ l) = v.cells := fun l => by rw [← hl, List.take_left]
  have h8 : (v.cells ++ [V.str key, V.int .i64 steps])[8]? = some (V.str key) := by rw [← hl, List.getElem?_append_right (Nat.le_refl _)]; simp
  have h9 : (v.cells ++ [V.str key, V.int .i64 steps])[9]? = some (V.int .i64 steps) := by rw [List.getElem?_append_right (by omega)]; simp [hl]
  simp [sc10, resCells, hl, ht]
  refine (same_val v s).mono ?_
  rintro r s' ⟨rfl, rfl⟩
  simp [])

end Go.Proofs.YthjjlmkooofdiaaGreatDoor

/-
  VlW: more than is gone through; the world.
-/
namespace Go.Proofs.YthjjlmkooofdiaaGreatDoor
open Go Go.VL

def bey : Int → List Int → Bool
  | _, [] => false
  | n, g :: gs => if 1048576 < IntKind.i64.wrap (n + g) then true else bey (IntKind.i64.wrap (n + g)) gs

def intRows (l : List Int) : List (List V) := l.map fun g => [.int .i64 g]

theorem gv11 (l : List Int) : Gv Tryz.prog 11 [.sl (intRows l) [] false none] (.bool (bey 0 l)) := fun s => ac11 (by simp) (by
  have hlen : (intRows l).length = l.length := by simp [intRows]
  have hrow : ∀ i : Nat, (intRows l)[i]? = (l[i]?).map fun g => [V.int .i64 g] := by intro i; simp [intRows]
  simp [sc11]
  refine ⟨fun n T L s' => ∃ i acc, i ≤ l.length ∧ n = l.length - i ∧ T 0 = .sl (intRows l) [] false none ∧ T 4 = .int .i64 (i : Nat) ∧ T 3 = .int .i64 acc ∧ s' = s ∧ bey acc (l.drop i) = bey 0 l, ?_, ?_⟩
  · exact ⟨l.length, 0, 0, by simp, by simp, by simp, by simp, by simp, rfl, by simp⟩
  · rintro n T L s' ⟨i, acc, hi, rfl, h0, h4, h3, rfl, hrun⟩
    simp [h0, h4, h3, hlen]
    intro htop
    by_cases hlt : i < l.length
    · have hdrop : l.drop i = l[i] :: l.drop (i + 1) := List.drop_eq_getElem_cons hlt
      have hli : l[i]? = some l[i] := List.getElem?_eq_getElem hlt
      rw [hdrop] at hrun
      simp only [bey] at hrun
      simp [hlt, hrow]
      split
      · rename_i hm
        rw [if_pos hm] at hrun
        simp [hrun]
      · rename_i hm
        rw [if_neg hm] at hrun
        exact ⟨l.length - (i + 1), by omega, i + 1, by omega, rfl, wrap_succ i (by omega), hrun⟩
    · have : i = l.length := by omega
      subst this
      rw [List.drop_eq_nil_of_le (Nat.le_refl _)] at hrun
      simp only [bey] at hrun
      simp [← hrun])

structure In where
  come : List Rs
  fuel : Int
  inst : Int
  env : List Fld
  e : Ex
  l : List Ex

def In.cells (x : In) : List V := .sl (x.come.map Rs.cells) [] false none :: .int .i64 x.fuel :: .int .i64 x.inst :: .sl (Fld.rows x.env) [] false none :: (x.e.cells ++ [.sl (Ex.rows x.l) [] false none])

theorem In.at0 (x : In) : x.cells[0]? = some (.sl (x.come.map Rs.cells) [] false none) := rfl
theorem In.at1 (x : In) : x.cells[1]? = some (.int .i64 x.fuel) := rfl
theorem In.at2 (x : In) : x.cells[2]? = some (.int .i64 x.inst) := rfl
theorem In.at3 (x : In) : x.cells[3]? = some (.sl (Fld.rows x.env) [] false none) := rfl
theorem In.at14 (x : In) : x.cells[14]? = some (.sl (Ex.rows x.l) [] false none) := by
  have h : (x.e.cells ++ [V.sl (Ex.rows x.l) [] false none])[10]? = some (.sl (Ex.rows x.l) [] false none) := by
    rw [List.getElem?_append_right (by rw [Ex.len]; exact Nat.le_refl _)]; simp [Ex.len]
  exact h
theorem In.len (x : In) : x.cells.length = 15 := by simp [In.cells, Ex.len]
theorem In.at4 (x : In) : List.take 10 (List.drop 4 x.cells) = x.e.cells := by
  have : List.take x.e.cells.length (x.e.cells ++ [V.sl (Ex.rows x.l) [] false none]) = x.e.cells := List.take_left
  rw [Ex.len] at this
  exact this

/-- whether it is too much is told; nothing is turned. -/
theorem gv6 (x : In) : ∃ b : Bool, Gv Tryz.prog 6 [.agg x.cells] (.bool b) := by
  obtain ⟨a, ha⟩ := rows_num x.come
  obtain ⟨b, hb⟩ := flds_num' x.env
  obtain ⟨c, hc⟩ := ex_num x.e
  obtain ⟨d, hd⟩ := exs_num' x.l
  refine ⟨if 5000 < x.fuel then true else bey 0 [a, b, c, d], fun s => ac6 (by simp) ?_⟩
  simp only [sc6]
  refine wpS_cut (fun T L s' => T 1 = .lp 1 1 0 ∧ L 1 = (1, x.cells) ∧ s' = s) (by simp [In.len]) ?_
  rintro T L s0 ⟨h1, hL, rfl⟩
  refine wpS_cut (fun T L s' => T 2 = .bool (if 5000 < x.fuel then true else bey 0 [a, b, c, d]) ∧ s' = s0) ?_ (by rintro T L s' ⟨h2, rfl⟩; simp [h2])
  simp only [wpS]
  refine wpRs_cut 4 (fun T L s' => T 1 = .lp 1 1 0 ∧ L 1 = (1, x.cells) ∧ s' = s0 ∧ T 6 = .bool (decide (5000 < x.fuel))) (by simp [h1, hL, In.at1]) ?_
  rintro T L s1 ⟨h1, hL, rfl, h6⟩
  simp only [List.drop]
  by_cases hf : 5000 < x.fuel
  · simp only [hf, decide_true] at h6
    simp [h6, hf]
  · simp only [hf, decide_false] at h6
    refine wpRs_cut 8 (fun T L s' => s' = s1 ∧ T 6 = .bool false ∧ T 8 = .sl (x.come.map Rs.cells) [] false none ∧ T 11 = .sl (Fld.rows x.env) [] false none ∧ T 14 = .agg x.e.cells ∧ T 17 = .sl (Ex.rows x.l) [] false none) ?_ ?_
    · simp [h1, hL, h6, In.at4, In.len]
      exact ⟨(List.getElem?_eq_some_iff.1 x.at0).2, (List.getElem?_eq_some_iff.1 x.at3).2, (List.getElem?_eq_some_iff.1 x.at14).2⟩
    rintro T L s2 ⟨rfl, h6, h8, h11, h14, h17⟩
    simp only [List.drop]
    refine wpRs_cut 1 (fun T L s' => s' = s2 ∧ T 6 = .bool false ∧ T 9 = .int .i64 a ∧ T 11 = .sl (Fld.rows x.env) [] false none ∧ T 14 = .agg x.e.cells ∧ T 17 = .sl (Ex.rows x.l) [] false none) ?_ ?_
    · simp [h6, h8, h11, h14, h17]
      refine (ha s2).mono ?_
      rintro r s' ⟨rfl, rfl⟩
      simp
    rintro T L s3 ⟨rfl, h6, h9, h11, h14, h17⟩
    simp only [List.drop]
    refine wpRs_cut 1 (fun T L s' => s' = s3 ∧ T 6 = .bool false ∧ T 9 = .int .i64 a ∧ T 12 = .int .i64 b ∧ T 14 = .agg x.e.cells ∧ T 17 = .sl (Ex.rows x.l) [] false none) ?_ ?_
    · simp [h6, h9, h11, h14, h17]
      refine (hb s3).mono ?_
      rintro r s' ⟨rfl, rfl⟩
      simp
    rintro T L s4 ⟨rfl, h6, h9, h12, h14, h17⟩
    simp only [List.drop]
    refine wpRs_cut 1 (fun T L s' => s' = s4 ∧ T 6 = .bool false ∧ T 9 = .int .i64 a ∧ T 12 = .int .i64 b ∧ T 15 = .int .i64 c ∧ T 17 = .sl (Ex.rows x.l) [] false none) ?_ ?_
    · simp [h6, h9, h12, h14, h17]
      refine (hc s4).mono ?_
      rintro r s' ⟨rfl, rfl⟩
      simp
    rintro T L s5 ⟨rfl, h6, h9, h12, h15, h17⟩
    simp only [List.drop]
    refine wpRs_cut 1 (fun T L s' => s' = s5 ∧ T 6 = .bool false ∧ T 9 = .int .i64 a ∧ T 12 = .int .i64 b ∧ T 15 = .int .i64 c ∧ T 18 = .int .i64 d) ?_ ?_
    · simp [h6, h9, h12, h15, h17]
      refine (hd s5).mono ?_
      rintro r s' ⟨rfl, rfl⟩
      simp
    rintro T L s6 ⟨rfl, h6, h9, h12, h15, h18⟩
    simp only [List.drop]
    refine wpRs_cut 1 (fun T L s' => s' = s6 ∧ T 6 = .bool false ∧ T 19 = .sl (intRows [a, b, c, d]) [] true none) ?_ ?_
    · simp [h6, h9, h12, h15, h18, chunks, intRows]
    rintro T L s7 ⟨rfl, h6, h19⟩
    simp only [List.drop]
    refine wpRs_cut 1 (fun T L s' => s' = s7 ∧ T 6 = .bool false ∧ T 20 = .bool (bey 0 [a, b, c, d])) ?_ ?_
    · simp [h6, h19]
      refine ((gv11 [a, b, c, d] s7).args (Les.cons (Le.sl _ _ _ _) (Les.refl _))).mono ?_
      rintro r s' ⟨rfl, rfl⟩
      simp
    rintro T L s8 ⟨rfl, h6, h20⟩
    simp [h6, h20, hf]

def worldCells (x : In) : List V := [.sl (x.come.map Rs.cells) [] false none, .int .i64 x.fuel, .int .i64 x.inst]

theorem gv8 (x : In) (h1 : x.come.length ≤ 1048576) (h2 : ∀ r ∈ x.come, Fit r.v) : Gv Tryz.prog 8 [.agg x.cells] (.agg (worldCells x)) := fun s => ac8 (by simp) (by
  have htw := twin_rows x.come h1 h2
  simp only [sc8]
  refine wpS_cut (fun T L s' => T 1 = .lp 1 1 0 ∧ T 2 = .lp 2 1 0 ∧ L 1 = (1, x.cells) ∧ L 2 = (1, [.sl [] [] true none, .int .i64 0, .int .i64 0]) ∧ s' = s) (by simp [In.len]) ?_
  rintro T L s0 ⟨q1, q2, hL1, hL2, rfl⟩
  refine wpS_cut (fun T L s' => T 2 = .lp 2 1 0 ∧ L 2 = (1, worldCells x) ∧ s' = s0) ?_ (by rintro T L s' ⟨q2, hL2, rfl⟩; simp [q2, hL2, worldCells])
  simp only [wpS]
  refine wpRs_cut 6 (fun T L s' => T 2 = .lp 2 1 0 ∧ L 2 = (1, [.sl [] [] true none, .int .i64 0, .int .i64 0]) ∧ s' = s0 ∧ T 4 = .sl (x.come.map Rs.cells) [] false none ∧ T 7 = .int .i64 x.fuel ∧ T 9 = .int .i64 x.inst) ?_ ?_
  · simp [q1, q2, hL1, hL2, In.at0, In.at1, In.at2]
  rintro T L s1 ⟨q2, hL2, rfl, q4, q7, q9⟩
  simp only [List.drop]
  refine wpRs_cut 1 (fun T L s' => T 2 = .lp 2 1 0 ∧ L 2 = (1, [.sl [] [] true none, .int .i64 0, .int .i64 0]) ∧ s' = s1 ∧ T 5 = .sl (x.come.map Rs.cells) [] false none ∧ T 7 = .int .i64 x.fuel ∧ T 9 = .int .i64 x.inst) ?_ ?_
  · simp [q2, hL2, q4, q7, q9]
    refine (htw s1).mono ?_
    rintro r s' ⟨rfl, rfl⟩
    simp
  rintro T L s2 ⟨q2, hL2, rfl, q5, q7, q9⟩
  simp [q2, hL2, q5, q7, q9, worldCells])

end Go.Proofs.YthjjlmkooofdiaaGreatDoor

/-
  VlX: slices.Clone and slices.Clip.
-/
namespace Go.Proofs.YthjjlmkooofdiaaGreatDoor
open Go Go.VL

def scClone (sz : Nat) : SC :=
  (.seq (.reg [.pf 2 (.mv (.k (.sl [] [] true none)))])
  (.seq (.seq (.reg [.pf 3 (.mv (.t 0)),
    .nils false 4 (.t 3)])
  (.cond (.t 4)
    (.seq (.reg [.pf 2 (.mv (.k (.sl [] [] true none)))])
    .ret)
    .skip))
  (.seq (.reg [.bsl0 5,
    .pf 6 (.mv (.t 0)),
    .apph 7 sz (.t 5) (.t 6),
    .pf 2 (.mv (.t 7))])
  .ret)))

/-- a block of one's own, that holds a list. -/
def own (s : H) (b : Nat) (xs : List (List V)) : H := { s with c := upd s.c b (some xs.flatten) }

/-- what a clone is: nothing, or a list in a block of its own. -/
def Cloned (s : H) (xs : List (List V)) (r : V) (s' : H) : Prop :=
  (xs = [] ∧ r = .sl [] [] true none ∧ s' = s) ∨ (xs ≠ [] ∧ ∃ b c, s.c b = none ∧ s.f b = none ∧ xs.length ≤ c ∧ c < top ∧ r = .hs b 0 xs.length c ∧ s' = own s b xs)

theorem clone_walk {P : Program} {sz : Nat} {xs : List (List V)} (hx : ∀ x ∈ xs, x.length = sz ∧ ∀ v ∈ x, one v = true) (hroom : xs.length * 1024 ≤ 140737488355328) (s : H) :
    wpS P (scClone sz) (bodyQ [.t 2] (Cloned s xs)) (initT [.sl xs [] false none]) (fun _ => (0, [])) s := by
  by_cases h : xs = []
  · subst h
    simp [scClone, Cloned]
  · simp [scClone, Cloned, h]
    refine ⟨hx, hroom, fun b c h1 h2 h3 h4 => ⟨b, h1, h2, c, h3, h4, ⟨rfl, rfl⟩, rfl⟩⟩

theorem clone108 (xs : List (List V)) (hx : ∀ x ∈ xs, x.length = 8 ∧ ∀ v ∈ x, one v = true) (hroom : xs.length * 1024 ≤ 140737488355328) (s : H) : AC Tryz.prog 108 [.sl xs [] false none] s (Cloned s xs) := ac108 (by simp) (clone_walk hx hroom s)
theorem clone110 (xs : List (List V)) (hx : ∀ x ∈ xs, x.length = 9 ∧ ∀ v ∈ x, one v = true) (hroom : xs.length * 1024 ≤ 140737488355328) (s : H) : AC Tryz.prog 110 [.sl xs [] false none] s (Cloned s xs) := ac110 (by simp) (clone_walk hx hroom s)

/-- clipping gives the list. -/
theorem clip109 (xs : List (List V)) (hx : ∀ x ∈ xs, x.length = 8) : Gv Tryz.prog 109 [.sl xs [] false none] (.sl xs [] true none) := fun s => ac109 (by simp) (by
  simp [sc109, needS, Int.toNat_natCast]
  exact fun _ => hx)
theorem clip68 (xs : List (List V)) (hx : ∀ x ∈ xs, x.length = 9) : Gv Tryz.prog 68 [.sl xs [] false none] (.sl xs [] true none) := fun s => ac68 (by simp) (by
  simp [sc68, needS, Int.toNat_natCast]
  exact fun _ => hx)

end Go.Proofs.YthjjlmkooofdiaaGreatDoor

/-
  VlY: twin.Values, twin.Fields: lists in memory of their own.
-/
namespace Go.Proofs.YthjjlmkooofdiaaGreatDoor
open Go Go.VL

theorem flat_row {k : Nat} : ∀ {xs : List (List V)} (_ : ∀ x ∈ xs, x.length = k) (i : Nat) (h : i < xs.length), (xs.flatten.drop (i * k)).take k = xs[i]
  | x :: xs, hx, 0, h => by
    have : x.length = k := hx x (by simp)
    simp [← this]
  | x :: xs, hx, i + 1, h => by
    have hl : x.length = k := hx x (by simp)
    have ih := flat_row (xs := xs) (fun y hy => hx y (by simp [hy])) i (by simpa using h)
    rw [List.flatten_cons, Nat.add_mul, Nat.one_mul, Nat.add_comm, ← List.drop_drop]
    have : List.drop k (x ++ xs.flatten) = xs.flatten := by rw [← hl, List.drop_left]
    rw [this]
    simpa using ih

theorem flat_room {k : Nat} {xs : List (List V)} (hx : ∀ x ∈ xs, x.length = k) {i : Nat} (h : i < xs.length) : i * k + k ≤ xs.flatten.length := by
  rw [flatten_len hx, ← Nat.succ_mul]
  exact Nat.mul_le_mul_right _ h

theorem set_same {k : Nat} {xs : List (List V)} (hx : ∀ x ∈ xs, x.length = k) {i : Nat} (h : i < xs.length) : List.take (i * k) xs.flatten ++ (xs[i] ++ List.drop (i * k + k) xs.flatten) = xs.flatten := by
  rw [← flat_row hx i h, ← List.drop_drop, List.take_append_drop, List.take_append_drop]

theorem own_lose {s : H} {b : Nat} {xs : List (List V)} (h : s.c b = none) : (own s b xs).lose b = s := by
  simp only [own, H.lose]
  have : upd (upd s.c b (some xs.flatten)) b none = s.c := by
    funext i
    simp only [upd]
    split
    · rename_i e; rw [e, h]
    · rfl
  rw [this]

theorem own_set {s : H} {b : Nat} {xs : List (List V)} : ({ (own s b xs) with c := upd (own s b xs).c b (some xs.flatten) } : H) = own s b xs := by
  simp only [own]
  congr 1
  funext i
  simp only [upd]
  split <;> rfl

theorem own_c {s : H} {b : Nat} {xs : List (List V)} : (own s b xs).c b = some xs.flatten := by simp [own]

theorem gv85 (xs : List (List V)) (hx : ∀ x ∈ xs, x.length = 8 ∧ (∀ v ∈ x, one v = true) ∧ Gv Tryz.prog 72 [.agg x] (.agg x)) (hroom : xs.length * 1024 ≤ 140737488355328) : Gv Tryz.prog 85 [.sl xs [] false none] (.sl xs [] false none) := by
  intro s
  refine AC.weak (Q := fun r s' => r = V.sl xs [] true none ∧ s' = s) ?_ fun r s' ⟨e1, e2⟩ => ⟨_, s, by rw [e1]; exact Le.sl _ _ _ _, by rw [e2]; exact H.le.refl _, rfl, rfl⟩
  refine ac85 (by simp) ?_
  have hl : ∀ x ∈ xs, x.length = 8 := fun x h => (hx x h).1
  have hcl := clone108 xs (fun x h => ⟨(hx x h).1, (hx x h).2.1⟩) hroom
  simp only [sc85]
  refine wpS_cut (fun T L s' => T 0 = .sl xs [] false none ∧ s' = s) (by simp) ?_
  rintro T L s0 ⟨h0, rfl⟩
  refine wpS_cut (fun T L s' => Cloned s0 xs (T 3) s') ?_ ?_
  · simp [h0]
    exact (hcl s0).mono fun r s' h => by simpa using h
  rintro T L s1 hc
  rcases hc with ⟨rfl, h3, rfl⟩ | ⟨hne, b, c, hb1, hb2, hc1, hc2, h3, rfl⟩
  · refine wpS_cut (fun T L s' => T 3 = .sl [] [] true none ∧ s' = s1) ?_ ?_
    · simp [h3]
      intro _
      refine ⟨fun n T L s' => T 3 = .sl [] [] true none ∧ T 8 = .int .i64 0 ∧ T 9 = .int .i64 0 ∧ s' = s1, ⟨0, by simp [h3]⟩, ?_⟩
      rintro n T L s' ⟨h3, h8, h9, rfl⟩
      simp [h3, h8, h9]
    rintro T L s2 ⟨h3, rfl⟩
    simp [h3]
    refine ((clip109 [] (by simp) s2).args (Les.cons (Le.sl _ _ _ _) (Les.refl _))).mono ?_
    rintro r s' ⟨rfl, rfl⟩
    simp
  · have hlen : 0 < xs.length := List.length_pos_iff.2 hne
    refine wpS_cut (fun T L s' => T 3 = .hs b 0 xs.length c ∧ s' = own s0 b xs) ?_ ?_
    · simp [h3]
      refine ⟨fun n T L s' => ∃ i, i ≤ xs.length ∧ n = xs.length - i ∧ T 3 = .hs b 0 xs.length c ∧ T 8 = .int .i64 xs.length ∧ T 9 = .int .i64 (i : Nat) ∧ s' = own s0 b xs, ?_, ?_⟩
      · exact ⟨xs.length, 0, by simp, by simp, by simp [h3], by simp, by simp, rfl⟩
      · rintro n T L s' ⟨i, hi, rfl, h3, h8, h9, rfl⟩
        by_cases hlt : i < xs.length
        · obtain ⟨q1, q2, q3⟩ := hx xs[i] (List.getElem_mem _)
          have hfl := flat_room hl hlt
          rw [flatten_len hl] at hfl
          simp [h3, h8, h9, hlt, own_c, flatten_len hl, hfl, flat_row hl i hlt]
          refine (q3 _).mono ?_
          rintro r s' ⟨rfl, rfl⟩
          simp [q1, own_c, flatten_len hl, hfl, set_same hl hlt, own_set]
          refine ⟨q2, xs.length - (i + 1), by omega, i + 1, by omega, rfl, ?_⟩
          exact wrap_succ i (by omega)
        · have : i = xs.length := by omega
          subst this
          simp [h3, h8, h9]
    rintro T L s2 ⟨h3, rfl⟩
    simp [h3]
    refine AC.freeze_arg (k := 8) (rows := xs) own_c hl rfl hc1 hc2 ?_
    rw [own_lose hb1]
    refine (clip109 xs hl s0).mono ?_
    rintro r s' ⟨rfl, rfl⟩
    simp


theorem flat_rest {xs : List (List V)} (hx : ∀ x ∈ xs, x.length = 9) (i : Nat) (h : i < xs.length) : (xs.flatten.drop (i * 9 + 1)).take 8 = xs[i].tail := by
  rw [← flat_row hx i h, ← List.drop_one, List.drop_take, List.drop_drop]

theorem set_rest {xs : List (List V)} (hx : ∀ x ∈ xs, x.length = 9) {i : Nat} (h : i < xs.length) : List.take (i * 9 + 1) xs.flatten ++ (xs[i].tail ++ List.drop (i * 9 + 1 + 8) xs.flatten) = xs.flatten := by
  have e : List.drop (i * 9 + 1 + 8) xs.flatten = List.drop 8 (List.drop (i * 9 + 1) xs.flatten) := by rw [List.drop_drop]
  rw [← flat_rest hx i h, e, List.take_append_drop, List.take_append_drop]

theorem gv86 (xs : List (List V)) (hx : ∀ x ∈ xs, x.length = 9 ∧ (∀ v ∈ x, one v = true) ∧ Gv Tryz.prog 72 [.agg x.tail] (.agg x.tail)) (hroom : xs.length * 1024 ≤ 140737488355328) : Gv Tryz.prog 86 [.sl xs [] false none] (.sl xs [] false none) := by
  intro s
  refine AC.weak (Q := fun r s' => r = V.sl xs [] true none ∧ s' = s) ?_ fun r s' ⟨e1, e2⟩ => ⟨_, s, by rw [e1]; exact Le.sl _ _ _ _, by rw [e2]; exact H.le.refl _, rfl, rfl⟩
  refine ac86 (by simp) ?_
  have hl : ∀ x ∈ xs, x.length = 9 := fun x h => (hx x h).1
  have hcl := clone110 xs (fun x h => ⟨(hx x h).1, (hx x h).2.1⟩) hroom
  simp only [sc86]
  refine wpS_cut (fun T L s' => T 0 = .sl xs [] false none ∧ s' = s) (by simp) ?_
  rintro T L s0 ⟨h0, rfl⟩
  refine wpS_cut (fun T L s' => Cloned s0 xs (T 3) s') ?_ ?_
  · simp [h0]
    exact (hcl s0).mono fun r s' h => by simpa using h
  rintro T L s1 hc
  rcases hc with ⟨rfl, h3, rfl⟩ | ⟨hne, b, c, hb1, hb2, hc1, hc2, h3, rfl⟩
  · refine wpS_cut (fun T L s' => T 3 = .sl [] [] true none ∧ s' = s1) ?_ ?_
    · simp [h3]
      intro _
      refine ⟨fun n T L s' => T 3 = .sl [] [] true none ∧ T 8 = .int .i64 0 ∧ T 9 = .int .i64 0 ∧ s' = s1, ⟨0, by simp [h3]⟩, ?_⟩
      rintro n T L s' ⟨h3, h8, h9, rfl⟩
      simp [h3, h8, h9]
    rintro T L s2 ⟨h3, rfl⟩
    simp [h3]
    refine ((clip68 [] (by simp) s2).args (Les.cons (Le.sl _ _ _ _) (Les.refl _))).mono ?_
    rintro r s' ⟨rfl, rfl⟩
    simp
  · have hlen : 0 < xs.length := List.length_pos_iff.2 hne
    refine wpS_cut (fun T L s' => T 3 = .hs b 0 xs.length c ∧ s' = own s0 b xs) ?_ ?_
    · simp [h3]
      refine ⟨fun n T L s' => ∃ i, i ≤ xs.length ∧ n = xs.length - i ∧ T 3 = .hs b 0 xs.length c ∧ T 8 = .int .i64 xs.length ∧ T 9 = .int .i64 (i : Nat) ∧ s' = own s0 b xs, ?_, ?_⟩
      · exact ⟨xs.length, 0, by simp, by simp, by simp [h3], by simp, by simp, rfl⟩
      · rintro n T L s' ⟨i, hi, rfl, h3, h8, h9, rfl⟩
        by_cases hlt : i < xs.length
        · obtain ⟨q1, q2, q3⟩ := hx xs[i] (List.getElem_mem _)
          have hfl := flat_room hl hlt
          rw [flatten_len hl] at hfl
          have hfl' : i * 9 + 1 + 8 ≤ xs.length * 9 := hfl
          simp [h3, h8, h9, hlt, own_c, flatten_len hl, hfl', flat_rest hl i hlt]
          refine (q3 _).mono ?_
          rintro r s' ⟨rfl, rfl⟩
          simp [q1, own_c, flatten_len hl, hfl', set_rest hl hlt, own_set]
          refine ⟨fun v hv => q2 v (List.mem_of_mem_tail hv), xs.length - (i + 1), by omega, i + 1, by omega, rfl, ?_⟩
          exact wrap_succ i (by omega)
        · have : i = xs.length := by omega
          subst this
          simp [h3, h8, h9]
    rintro T L s2 ⟨h3, rfl⟩
    simp [h3]
    refine AC.freeze_arg (k := 9) (rows := xs) own_c hl rfl hc1 hc2 ?_
    rw [own_lose hb1]
    refine (clip68 xs hl s0).mono ?_
    rintro r s' ⟨rfl, rfl⟩
    simp

end Go.Proofs.YthjjlmkooofdiaaGreatDoor
