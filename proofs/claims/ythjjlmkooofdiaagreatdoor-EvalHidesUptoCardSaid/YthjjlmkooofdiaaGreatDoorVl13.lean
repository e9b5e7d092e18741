/-
  a part of the proof: the texts VlZv, VlZw, VlZx, VlZy, VlZz, VlZza, joined: helper laws; none of them is the statement.
-/
import Derived.Test.YthjjlmkooofdiaaGreatDoorVl12
import Derived.Test.YthjjlmkooofdiaaGreatDoorRows
import Derived.ChangeArms
import Derived.Test.YthjjlmkooofdiaaGreatDoorCards
import Derived.Test.YthjjlmkooofdiaaGreatDoorTie
import Derived.Carry
import Derived.ProofKit
import Derived.OpenShut
import Derived.Deep.DeepHandedRow
import Derived.Deep.DeepWitnessRowRef

/-
  VlZv: lives: it does.
-/
namespace Go.Proofs.YthjjlmkooofdiaaGreatDoor
open Go Go.VL

def raw16 (n : Int) : List V := [.int .u8 1, .int .i64 n, .str [], .sl [] [] true none, .sl [] [] true none, .sl [] [] true none, .int .u8 0, .sl [] [] true none, .sl [] [] true none, .str []]
def rawAdd : List V := [.int .u8 5, .int .i64 0, .str [97, 100, 100], .sl [raw16 1, raw16 2] [] true none, .sl [] [] true none, .sl [] [] true none, .int .u8 0, .sl [] [] true none, .sl [] [] true none, .str []]

theorem raw16Ule (n : Int) : Les (raw16 n) (wholeE n).cells := by
  simp only [raw16, wholeE, Ex.cells, Ex.rows, Ac.rows, txtRows, List.map_nil]
  exact Les.cons (Le.refl _) (Les.cons (Le.refl _) (Les.cons (Le.refl _) (Les.cons (Le.sl _ _ _ _) (Les.cons (Le.sl _ _ _ _) (Les.cons (Le.sl _ _ _ _) (Les.cons (Le.refl _) (Les.cons (Le.sl _ _ _ _) (Les.cons (Le.sl _ _ _ _) (Les.refl _)))))))))

theorem rawAdd_le : Les rawAdd addE.cells := by
  have h : Le (.sl [raw16 1, raw16 2] [] true none) (.sl (Ex.rows [wholeE 1, wholeE 2]) [] false none) := by
    refine Le.trans (Le.sl _ _ _ _) (Le.elems (xs := [raw16 1, raw16 2]) (xs' := Ex.rows [wholeE 1, wholeE 2]) rfl (fun i x x' hx hx' => ?_) false none)
    match i, hx, hx' with
    | 0, hx, hx' => cases hx; cases hx'; exact ⟨raw16Ule 1, rfl⟩
    | 1, hx, hx' => cases hx; cases hx'; exact ⟨raw16Ule 2, rfl⟩
    | i + 2, hx, hx' => simp at hx
  simp only [rawAdd, addE, Ex.cells, Ac.rows, txtRows, List.map_nil]
  refine Les.cons (Le.refl _) (Les.cons (Le.refl _) (Les.cons (Le.refl _) (Les.cons h ?_)))
  simp only [Ex.rows]
  exact Les.cons (Le.sl _ _ _ _) (Les.cons (Le.sl _ _ _ _) (Les.cons (Le.refl _) (Les.cons (Le.sl _ _ _ _) (Les.cons (Le.sl _ _ _ _) (Les.refl _)))))

theorem eval_100 : Gv Tryz.prog 9 [.agg [.sl [] [] true none, .int .i64 100, .int .i64 0], .sl [] [] true none, .agg rawAdd] (.agg (outCells true (intV 3).cells upz 3)) := fun s =>
  AC.args (eval_add 100 true (intV 3).cells upz 3 rfl (Val.one _) rfl (by simp [upz]) (.inl ⟨_, add_100, rfl, rfl, rfl⟩) s) (Les.cons (Le.refl _) (Les.cons (Le.refl _) (Les.cons (Le.agg rawAdd_le) (Les.refl _))))
theorem eval_2 : Gv Tryz.prog 9 [.agg [.sl [] [] true none, .int .i64 2, .int .i64 0], .sl [] [] true none, .agg rawAdd] (.agg (outCells false zVal (Up.text fuelT).cells 2)) := fun s =>
  AC.args (eval_add 2 false zVal (Up.text fuelT).cells 2 rfl (by simp [zVal]) (Up.len _) (Up.one _) (.inr ⟨_, add_2, rfl, rfl, rfl⟩) s) (Les.cons (Le.refl _) (Les.cons (Le.refl _) (Les.cons (Le.agg rawAdd_le) (Les.refl _))))

set_option maxHeartbeats 1000000 in
theorem gv7 : Gv Tryz.prog 7 [] (.bool true) := fun s => ac7 (by simp) (by
  simp only [sc7]
  refine wpS_cut (fun T L s' => s' = s) (by simp) ?_
  rintro T L s0 rfl
  refine wpS_cut (fun T L s' => T 1 = .lp 1 ((L 1).1) 0 ∧ (L 1).2 = rawAdd ∧ s' = s0) ?_ ?_
  · simp
    refine (gv16 1 s0).mono ?_
    rintro r s' ⟨rfl, rfl⟩
    simp
    refine (gv16 2 s').mono ?_
    rintro r s'' ⟨rfl, rfl⟩
    simp [chunks, rawAdd, raw16]
  rintro T L s1 ⟨h1, hL1, rfl⟩
  have hr10 : rawAdd.length = 10 := rfl
  have hrt : List.take 10 rawAdd = rawAdd := rfl
  refine wpS_cut (fun T L s' => T 1 = .lp 1 ((L 1).1) 0 ∧ (L 1).2 = rawAdd ∧ T 2 = .lp 2 ((L 2).1) 0 ∧ (L 2).2 = outCells true (intV 3).cells upz 3 ∧ s' = s1) ?_ ?_
  · simp [h1, hL1, hr10, hrt]
    refine (eval_100 s1).mono ?_
    rintro r s' ⟨rfl, rfl⟩
    simp [outCells, intV, Val.cells, Val.rows, Fld.rows]
  rintro T L s2 ⟨h1, hL1, h2, hL2, rfl⟩
  refine wpS_cut (fun T L s' => T 2 = .lp 2 ((L 2).1) 0 ∧ (L 2).2 = outCells true (intV 3).cells upz 3 ∧ T 3 = .lp 3 ((L 3).1) 0 ∧ (L 3).2 = outCells false zVal (Up.text fuelT).cells 2 ∧ s' = s2) ?_ ?_
  · simp [h1, hL1, hr10, hrt, h2, hL2]
    refine (eval_2 s2).mono ?_
    rintro r s' ⟨rfl, rfl⟩
    simp [outCells, Up.cells, textCells]
  rintro T L s3 ⟨h2, hL2, h3, hL3, rfl⟩
  refine wpS_cut (fun T L s' => T 0 = .bool true ∧ s' = s3) ?_ (by rintro T L s' ⟨h0, rfl⟩; simp [h0])
  simp [h2, hL2, h3, hL3, outCells, intV, Val.cells, Up.cells, textCells, fuelT])

end Go.Proofs.YthjjlmkooofdiaaGreatDoor

/-
  VlZw: a name that stands behind another one of that name hides it: the statement's walk.
-/
namespace Go.Proofs.YthjjlmkooofdiaaGreatDoor
open Go Go.VL

theorem name43 (b : Nat) (come : V) (fuel inst n : Int) (up : List V) (hup : up.length = 11) (env : List Fld) (hlen : env.length < top) (hfit : FitFs env) (deep : Int) (e : Ex) (s : H) :
    AC Tryz.prog 43 [.ptr b 0, .agg [.sl (Fld.rows env) [] false none, .int .i64 deep], .agg e.cells] (put1 s b (mcs come fuel inst n up)) (EvP b come fuel inst up s (doneOut (getV env (exText e)) n)) := by
  refine (gv43 b (mcs come fuel inst n up) env hlen hfit deep e _ (put1Uc _ _ _) (by simp [mcs, hup])).mono ?_
  intro r s' h
  unfold Came at h
  unfold doneOut
  cases hc : checkB (getV env (exText e))
  · simp only [hc, Bool.false_eq_true, if_false] at h ⊢
    obtain ⟨rfl, rfl⟩ := h
    exact ⟨rfl, by rw [put1Uput1]; rfl⟩
  · simp only [hc, if_true] at h ⊢
    obtain ⟨rfl, rfl⟩ := h
    exact ⟨rfl, rfl⟩

def nameE (name : List UInt8) : Ex := .mk 4 0 name [] [] [] 0 [] [] []
def rawName (name : List UInt8) : List V := [.int .u8 4, .int .i64 0, .str name, .sl [] [] true none, .sl [] [] true none, .sl [] [] true none, .int .u8 0, .sl [] [] true none, .sl [] [] true none, .str []]
theorem rawName_le (name : List UInt8) : Les (rawName name) (nameE name).cells := by
  simp only [rawName, nameE, Ex.cells, Ex.rows, Ac.rows, txtRows, List.map_nil]
  exact Les.cons (Le.refl _) (Les.cons (Le.refl _) (Les.cons (Le.refl _) (Les.cons (Le.sl _ _ _ _) (Les.cons (Le.sl _ _ _ _) (Les.cons (Le.sl _ _ _ _) (Les.cons (Le.refl _) (Les.cons (Le.sl _ _ _ _) (Les.cons (Le.sl _ _ _ _) (Les.refl _)))))))))

theorem ev_name (b : Nat) (come : V) (inst : Int) (env : List Fld) (hlen : env.length < top) (hfit : FitFs env) (name : List UInt8) (hn : isName name = true) (s : H) :
    AC Tryz.prog 19 [.ptr b 0, .agg [.sl (Fld.rows env) [] false none, .int .i64 0], .agg (nameE name).cells] (put1 s b (mcs come 10 inst 0 upz)) (EvP b come 10 inst upz s (doneOut (getV env name) 1)) := by
  have h1 : IntKind.i64.wrap (0 + 1) = 1 := by decide
  have := gv19 b come 10 inst 0 upz rfl (Fld.rows env) 0 (nameE name) 4 rfl (by decide) true (doneOut (getV env name) 1) 41 43 (fun _ _ _ => []) (fun _ _ _ => rfl) (fun _ _ _ => rfl)
    (fun s _ _ _ _ _ _ => by
      have := gv41 4 0 name (.sl (Ex.rows []) [] false none) (.sl (txtRows []) [] false none) (.sl (Ex.rows []) [] false none) (.sl (Ex.rows []) [] false none) (.sl (Ac.rows []) [] false none) 0 [] s
      rw [hn] at this
      exact this) (fun _ _ _ s => by rw [h1]; exact name43 b come 10 inst 1 upz rfl env hlen hfit _ (nameE name) s) s
  simpa [evalRes] using this

/-- what comes of a value that a name has. -/
def hideCells (v : Val) : List V := if checkB v = true then resCells 0 v [] 1 else resCells 1 (textV great) [] 1

theorem eval_name (rows : List (List V)) (inst : Int) (env : List Fld) (hlen : env.length < top) (hfit : FitFs env) (name : List UInt8) (hn : isName name = true) :
    Gv Tryz.prog 9 [.agg [.sl rows [] false none, .int .i64 10, .int .i64 inst], .sl (Fld.rows env) [] false none, .agg (nameE name).cells] (.agg (hideCells (getV env name))) := by
  generalize hv : getV env name = v
  have hself : ∀ b (s : H), s.c b = some (mcs (.sl rows [] false none) 10 inst 0 upz) → put1 s b (mcs (.sl rows [] false none) 10 inst 0 upz) = s := fun b s hs => by
    simp only [put1]
    have e : upd s.c b (some (mcs (.sl rows [] false none) 10 inst 0 upz)) = s.c := by
      funext i
      simp only [upd]
      split
      · rename_i e; rw [e, hs]
      · rfl
    rw [e]
  cases hc : checkB v
  · have := gv9 rows 10 inst (Fld.rows env) (nameE name).cells (Ex.len _) false zVal (Up.text great).cells 1 rfl (by simp [zVal]) (Up.len _) (Up.one _) (fun b s hs => by
      have h := ev_name b (.sl rows [] false none) inst env hlen hfit name hn s
      rw [hself b s hs, hv] at h
      simp only [doneOut, hc, Bool.false_eq_true, if_false] at h
      exact h)
    intro s
    refine AC.weak (this s) fun r s' ⟨h1, h2⟩ => ⟨.agg (hideCells v), s', ?_, H.le.refl _, rfl, h2⟩
    rw [h1]
    simp only [outCells, hideCells, hc, Bool.false_eq_true, if_false, Up.cells, resCells, textCells, textV, Val.cells, Val.rows, Fld.rows]
    exact Le.agg (Les.cons (Le.refl _) (Les.cons (Le.refl _) (Les.cons (Le.refl _) (Les.cons (Le.refl _) (Les.cons (Le.sl _ _ _ _) (Les.cons (Le.sl _ _ _ _) (Les.refl _)))))))
  · have := gv9 rows 10 inst (Fld.rows env) (nameE name).cells (Ex.len _) true v.cells upz 1 v.len (Val.one v) rfl (by simp [upz]) (fun b s hs => by
      have h := ev_name b (.sl rows [] false none) inst env hlen hfit name hn s
      rw [hself b s hs, hv] at h
      simp only [doneOut, hc, if_true] at h
      exact h)
    simpa [outCells, hideCells, hc, resCells] using this

theorem getV_last (env : List Fld) (name : List UInt8) (v : Val) : getV (env ++ [.mk name v]) name = v := by
  simp [getV, lastV_snoc, fname, fval]

end Go.Proofs.YthjjlmkooofdiaaGreatDoor

/-
  VlZx: EvalHides: true, whatever comes in.
-/
namespace Go.Proofs.YthjjlmkooofdiaaGreatDoor
open Go Go.VL

theorem hide_len (v : Val) : (hideCells v).length = 11 := by
  unfold hideCells; split <;> simp [resCells, Val.len]
theorem hide_one (v : Val) : ∀ x ∈ hideCells v, one x = true := by
  have h : ∀ k w, ∀ x ∈ resCells k w [] 1, one x = true := by
    intro k w x hx
    simp only [resCells, List.cons_append, List.mem_cons, List.mem_append, List.not_mem_nil, or_false] at hx
    rcases hx with rfl | h | rfl | rfl
    · rfl
    · exact Val.one w x h
    · rfl
    · rfl
  unfold hideCells; split
  · exact h _ _
  · exact h _ _
theorem same_hide (v : Val) : Gv Tryz.prog 10 [.agg (hideCells v), .agg (hideCells v)] (.bool true) := by
  unfold hideCells; split
  · exact same_res _ _ _ _
  · exact same_res _ _ _ _

/-- how the row of the statement may be asked. -/
structure Ok5 (x : In) (name : List UInt8) (v : Val) : Prop where
  come : x.come.length ≤ 1048576
  fits : ∀ r ∈ x.come, Fit r.v
  env : x.env.length ≤ 1048576
  envf : FitFs x.env
  v : Fit v
  name : name.length < top

theorem fitFs_append {l : List Fld} {f : Fld} (h : FitFs l) (hf : FitF f) : FitFs (l ++ [f]) := by
  induction l with
  | nil => simpa [FitFs] using hf
  | cons a l ih => simp only [FitFs, List.cons_append] at h ⊢; exact ⟨h.1, ih h.2⟩

set_option maxHeartbeats 2000000 in
theorem gv5 (x : In) (name : List UInt8) (v : Val) (ok : Ok5 x name v) : Gv Tryz.prog 5 [.agg x.cells, .str name, .agg v.cells] (.bool true) := by
  intro s
  refine AC.weak (Q := fun r s' => r = .bool true ∧ H.le s s') ?_ fun r s' ⟨h1, h2⟩ => ⟨r, s, Le.refl _, h2, h1, rfl⟩
  obtain ⟨bb, hb6⟩ := gv6 x
  have hw8 := gv8 x ok.come ok.fits
  have hvl := v.len
  have hvt : List.take 8 v.cells = v.cells := by rw [← hvl, List.take_length]
  have hxt : List.take 15 x.cells = x.cells := by rw [← x.len, List.take_length]
  refine ac5 (by simp) ?_
  simp only [sc5]
  refine wpS_cut (fun T L s' => T 1 = .str name ∧ T 3 = .lp 3 1 0 ∧ L 3 = (1, x.cells) ∧ T 5 = .lp 5 1 0 ∧ L 5 = (1, v.cells) ∧ s' = s) (by simp [In.len, hvl]) ?_
  rintro T L s0 ⟨h1, h3, hL3, h5, hL5, rfl⟩
  refine wpS_cut (fun T L s' => T 1 = .str name ∧ T 3 = .lp 3 1 0 ∧ L 3 = (1, x.cells) ∧ T 5 = .lp 5 1 0 ∧ L 5 = (1, v.cells) ∧ s' = s0 ∧ isName name = true) ?_ ?_
  · refine wpS_cut (fun T L s' => T 1 = .str name ∧ T 3 = .lp 3 1 0 ∧ L 3 = (1, x.cells) ∧ T 5 = .lp 5 1 0 ∧ L 5 = (1, v.cells) ∧ s' = s0 ∧ T 22 = .bool (bb || !isName name)) ?_ ?_
    · simp [h1, h3, hL3, h5, hL5, In.len, hxt]
      refine (hb6 s0).mono ?_
      rintro r s' ⟨rfl, rfl⟩
      cases bb
      · by_cases hn0 : name = []
        · subst hn0; simp [isName]
        · have hin : isName name = decide (name.length ≤ 4096) := by simp [isName, hn0]
          rw [hin]
          by_cases hq : name.length ≤ 4096
          · have hq' : ¬ (4096 : Int) < name.length := by omega
            simp [hn0, hq, hq']
          · have hq' : (4096 : Int) < name.length := by omega
            simp [hn0, hq, hq']
      · simp []
    rintro T L s1 ⟨h1, h3, hL3, h5, hL5, rfl, h22⟩
    cases hq : (bb || !isName name)
    · rw [hq] at h22
      have : isName name = true := by cases hn : isName name <;> simp [hn] at hq ⊢
      simp [h1, h3, hL3, h5, hL5, h22, this]
    · rw [hq] at h22
      simp [h22]
      refine (gv7 s1).mono ?_
      rintro r s' ⟨rfl, rfl⟩
      simp [H.le.refl]
  rintro T L s1 ⟨h1, h3, hL3, h5, hL5, rfl, hn⟩
  refine wpS_cut (fun T L s' => T 1 = .str name ∧ T 3 = .lp 3 1 0 ∧ L 3 = (1, x.cells) ∧ T 5 = .lp 5 1 0 ∧ L 5 = (1, v.cells) ∧ s' = s1 ∧ ∃ u, T 7 = .lp 7 u 0 ∧ L 7 = (u, worldCells x)) ?_ ?_
  · simp [h1, h3, hL3, h5, hL5, In.len, hxt]
    refine (hw8 s1).mono ?_
    rintro r s' ⟨rfl, rfl⟩
    simp [worldCells]
  rintro T L s2 ⟨h1, h3, hL3, h5, hL5, rfl, u, h7, hL7⟩
  refine wpS_cut (fun T L s' => T 1 = .str name ∧ T 3 = .lp 3 1 0 ∧ L 3 = (1, x.cells) ∧ T 5 = .lp 5 1 0 ∧ L 5 = (1, v.cells) ∧ s' = s2 ∧ T 7 = .lp 7 u 0 ∧ L 7 = (u, [.sl (x.come.map Rs.cells) [] false none, .int .i64 10, .int .i64 x.inst])) ?_ ?_
  · simp [h1, h3, hL3, h5, hL5, h7, hL7, worldCells]
  rintro T L s3 ⟨h1, h3, hL3, h5, hL5, rfl, h7, hL7⟩
  refine wpS_cut (fun T L s' => T 1 = .str name ∧ T 3 = .lp 3 1 0 ∧ L 3 = (1, x.cells) ∧ T 5 = .lp 5 1 0 ∧ L 5 = (1, v.cells) ∧ s' = s3 ∧ T 7 = .lp 7 u 0 ∧ L 7 = (u, [.sl (x.come.map Rs.cells) [] false none, .int .i64 10, .int .i64 x.inst]) ∧ T 8 = .sl [] [] true none) ?_ ?_
  · simp [h1, h3, hL3, h5, hL5, h7, hL7]
  rintro T L s4 ⟨h1, h3, hL3, h5, hL5, rfl, h7, hL7, h8⟩
  have h9 : ∀ y ∈ Fld.rows x.env, y.length = 9 ∧ ∀ w ∈ y, one w = true := by
    intro y hy; rw [Fld.rows_eq] at hy; obtain ⟨f, _, rfl⟩ := List.mem_map.1 hy; exact ⟨f.len, Fld.one f⟩
  have hrl : (Fld.rows x.env).length = x.env.length := by rw [Fld.rows_eq]; simp
  refine wpS_cut (fun T L s' => T 1 = .str name ∧ T 3 = .lp 3 1 0 ∧ L 3 = (1, x.cells) ∧ T 5 = .lp 5 1 0 ∧ L 5 = (1, v.cells) ∧ T 7 = .lp 7 u 0 ∧ L 7 = (u, [.sl (x.come.map Rs.cells) [] false none, .int .i64 10, .int .i64 x.inst]) ∧ Grow s4 9 (Fld.rows x.env) (T 8) s') ?_ ?_
  · have hx3 : 3 < x.cells.length := by rw [In.len]; decide
    have e3 : x.cells[3]'hx3 = .sl (Fld.rows x.env) [] false none := (List.getElem?_eq_some_iff.1 x.at3).2
    simp [h1, h3, hL3, h5, hL5, h7, hL7, h8, In.len, e3]
    refine ⟨h9, fun e => .inl ⟨e, rfl, rfl⟩, fun e => ⟨by rw [hrl]; exact clone_room ok.env, fun b c q1 q2 => .inr ⟨e, b, c, q1, q2, rfl, rfl⟩⟩⟩
  rintro T L s5 ⟨h1, h3, hL3, h5, hL5, h7, hL7, hg⟩
  have hrv : Fld.rows (x.env ++ [.mk name v]) = Fld.rows x.env ++ [.str name :: v.cells] := by simp [Fld.rows_eq, Fld.cells]
  refine wpS_cut (fun T L s' => ∃ t s6, T 1 = .str name ∧ T 5 = .lp 5 1 0 ∧ L 5 = (1, v.cells) ∧ T 7 = .lp 7 u 0 ∧ L 7 = (u, [.sl (x.come.map Rs.cells) [] false none, .int .i64 10, .int .i64 x.inst]) ∧ T 8 = .sl (Fld.rows (x.env ++ [.mk name v])) [] false t ∧ H.le s4 s6 ∧ s' = s6) ?_ ?_
  · rcases hg with ⟨q1, q2, rfl⟩ | ⟨q1, b, c, q2, q3, q4, rfl⟩
    · simp [h1, h5, hL5, h7, hL7, q2, hvl, hvt, chunks]
      refine ⟨Val.one v, fun b c q3 q4 => ⟨by rw [hrv, q1]; rfl, fr_le q4⟩⟩
    · simp [h1, h5, hL5, h7, hL7, q4, hvl, hvt, chunks]
      have h99 : ∀ y ∈ Fld.rows x.env, y.length = 9 := fun y hy => (h9 y hy).1
      refine ⟨Val.one v, h99, by rw [hrl]; exact Nat.le_trans (Nat.mul_le_mul_right _ (Nat.add_le_add_right ok.env 1)) (by decide), b, c, ⟨rfl, rfl⟩, by simp [fr], ?_⟩
      intro b' c' hb
      refine ⟨hrv.symm, ?_⟩
      rcases hb with ⟨rfl, rfl⟩ | ⟨g1, g2⟩
      · exact (congrArg (H.le s4) fr_again).mpr (fr_le q3)
      · have hne : b' ≠ b := by rintro rfl; simp [fr] at g2
        have g2' : s4.f b' = none := by simpa [fr, hne] using g2
        exact (congrArg (H.le s4) (fr_anew q3)).mpr (fr_le g2')
  rintro T L s6 ⟨t, s7, h1, h5, hL5, h7, hL7, h8, hle, rfl⟩
  have hfit : FitFs (x.env ++ [Fld.mk name v]) := fitFs_append ok.envf ok.v
  have hlen : (x.env ++ [Fld.mk name v]).length < top := by have := ok.env; simp; unfold top; omega
  have hev1 := eval_name (x.come.map Rs.cells) x.inst (x.env ++ [.mk name v]) hlen hfit name hn
  rw [getV_last] at hev1
  have hev2 := eval_name (x.come.map Rs.cells) x.inst [Fld.mk name v] (by simp; decide) (by simpa only [FitFs, FitF, and_true] using ok.v) name hn
  rw [show getV [Fld.mk name v] name = v from getV_last [] name v] at hev2
  have hhl := hide_len v
  have hht : List.take 11 (hideCells v) = hideCells v := by rw [← hhl, List.take_length]
  refine wpS_cut (fun T L s' => T 1 = .str name ∧ T 5 = .lp 5 1 0 ∧ L 5 = (1, v.cells) ∧ T 7 = .lp 7 u 0 ∧ L 7 = (u, [.sl (x.come.map Rs.cells) [] false none, .int .i64 10, .int .i64 x.inst]) ∧ T 9 = .lp 9 ((L 9).1) 0 ∧ (L 9).2 = hideCells v ∧ s' = s6) ?_ ?_
  · simp [h1, h5, hL5, h7, hL7, h8]
    refine ((hev1 s6).args (Les.cons (Le.refl _) (Les.cons (Le.sl _ _ _ _) (Les.cons (Le.agg (rawName_le name)) (Les.refl _))))).mono ?_
    rintro r s' ⟨rfl, rfl⟩
    simp [hhl]
    exact hide_one v
  rintro T L s8 ⟨h1, h5, hL5, h7, hL7, h9', hL9, rfl⟩
  refine wpS_cut (fun T L s' => T 9 = .lp 9 ((L 9).1) 0 ∧ (L 9).2 = hideCells v ∧ T 10 = .lp 10 ((L 10).1) 0 ∧ (L 10).2 = hideCells v ∧ s' = s8) ?_ ?_
  · simp [h1, h5, hL5, h7, hL7, h9', hL9, hvl, hvt, chunks]
    have hr1 : Fld.rows [Fld.mk name v] = [.str name :: v.cells] := by simp [Fld.rows, Fld.cells]
    rw [hr1] at hev2
    refine ((hev2 s8).args (Les.cons (Le.refl _) (Les.cons (Le.sl _ _ _ _) (Les.cons (Le.agg (rawName_le name)) (Les.refl _))))).mono ?_
    rintro r s' ⟨rfl, rfl⟩
    simp [hhl]
    exact hide_one v
  rintro T L s9 ⟨h9', hL9, h10, hL10, rfl⟩
  simp [h9', hL9, h10, hL10, hhl, hht]
  refine (same_hide v s9).mono ?_
  rintro r s' ⟨rfl, rfl⟩
  simp
  refine (gv7 s').mono ?_
  rintro r s'' ⟨rfl, rfl⟩
  simp [hle]

end Go.Proofs.YthjjlmkooofdiaaGreatDoor

/-
  VlZy: what is read as data, as the layer's values.
-/
namespace Go.Proofs.YthjjlmkooofdiaaGreatDoor
open Go Go.VL

def old (w : World) : Nat → Nat → Prop := fun b _ => b < w.heap.size

theorem bulk_pos {H : Type} (d : DataW H) : 1 ≤ Rows.uptoBulk d := by
  cases d with
  | lit l => cases l <;> simp [Rows.uptoBulk]
  | nil => simp [Rows.uptoBulk]
  | ptr d => simp [Rows.uptoBulk]
  | slice elems spare => simp [Rows.uptoBulk]
  | agg parts => simp [Rows.uptoBulk]
  | iface t d => simp [Rows.uptoBulk]
  | map entries => simp [Rows.uptoBulk]
  | held h => simp [Rows.uptoBulk]

theorem bulk_mem {H : Type} {d : DataW H} : ∀ {l : List (DataW H)}, d ∈ l → Rows.uptoBulk d ≤ Rows.uptoBulkAll l
  | [], h => by cases h
  | x :: r, h => by
    simp only [Rows.uptoBulkAll]
    rcases List.mem_cons.1 h with e | h
    · subst e; omega
    · have := bulk_mem h; omega

theorem bulk_len {H : Type} : ∀ (l : List (DataW H)), l.length ≤ Rows.uptoBulkAll l
  | [] => by simp [Rows.uptoBulkAll]
  | x :: r => by
    have := bulk_pos x
    have := bulk_len r
    simp only [Rows.uptoBulkAll, List.length_cons]; omega

theorem list_of {α : Type} {Q : Nat → α → Prop} : ∀ (n : Nat), (∀ i, i < n → ∃ v, Q i v) → ∃ l : List α, l.length = n ∧ ∀ i v, l[i]? = some v → Q i v
  | 0, _ => ⟨[], rfl, fun i v h => by simp at h⟩
  | n + 1, h => by
    obtain ⟨l, h1, h2⟩ := list_of n fun i hi => h i (by omega)
    obtain ⟨v, hv⟩ := h n (by omega)
    refine ⟨l ++ [v], by simp [h1], fun i u hu => ?_⟩
    rw [List.getElem?_append] at hu
    split at hu
    · exact h2 i u hu
    · have : i = n := by
        rcases Nat.lt_or_ge (i - l.length) 1 with q | q
        · omega
        · rw [List.getElem?_eq_none (by simpa using q)] at hu; cases hu
      subst this
      simp [h1] at hu
      subst hu; exact hv

section
variable {H : Type} {enc : TypeId × Value → H} {P : Program} {w : World}

theorem cells_some {a : Addr} {k : Nat} {cs : List Value} (h : w.cells? 0 a k = some cs) : cs.length = k ∧ ∀ j, j < k → w.cell? (a.add j) = cs[j]? := by
  unfold World.cells? at h
  rw [if_pos (Nat.zero_le _)] at h
  exact ⟨by simpa using mapM_some_length h, fun j hj => mapM_some_get h j j (by simp [hj])⟩

theorem cell_spot {a : Addr} {v : Value} (h : w.cell? a = some v) : a.spot = none ∧ a.block < w.heap.size := by
  unfold World.cell? at h
  split at h
  · rename_i c _ _ hc
    split at h
    · cases h
    · rename_i hs
      exact ⟨by simpa using hs, (Array.getElem?_eq_some_iff.1 hc).1⟩
  · cases h

theorem add_z (a : Addr) : a.add 0 = a := by
  unfold Addr.add; rfl

/-- a slice, by its elements. -/
theorem open_sl {α : Type} {cells : α → List V} {G : α → Prop} {k fuel B : Nat} {t e : TypeId} {x : DataW H × List MemPlace} {cv : Value} (hk0 : 0 < k) (hk : P.cellsOf e = k) (ht : P.underlying t = some (.slice e)) (hlen : ∀ v, (cells v).length = k)
    (ih : ∀ m, m < fuel → ∀ cs y, DataW.trod enc P w 0 (fun _ => true) true m e cs = some y → Rows.uptoBulk y.1 ≤ B → ∃ v, RVs (old w) w (cells v) cs ∧ G v)
    (h : DataW.trod enc P w 0 (fun _ => true) true fuel t [cv] = some x) (hB : Rows.uptoBulk x.1 ≤ B) :
    ∃ l : List α, RV (old w) w (.sl (l.map cells) [] false none) cv ∧ (∀ v ∈ l, G v) ∧ l.length ≤ B := by
  rcases DataW.trod_slice ht h with ⟨h1, _⟩ | ⟨a, len, cap, elems, rest, n, rfl, h1, rfl, _, hle, hcm, hel, hat, hsp, _⟩
  · refine ⟨[], ?_, fun v h => (by cases h), Nat.zero_le _⟩
    simp only [List.cons.injEq, and_true] at h1
    subst h1
    simp only [RV]
    exact ⟨none, 0, rfl, by simp, by simp, by decide, by simp, by simp, by simp⟩
  · simp only [List.cons.injEq, and_true] at h1
    subst h1
    simp only [Rows.uptoBulk] at hB
    have hlB := bulk_len (elems.map (·.1))
    simp only [List.length_map] at hlB
    have hone : ∀ i, i < len → ∃ v, (RVs (old w) w (cells v) (((w.cells? 0 (a.add (i * k)) k).getD [])) ∧ w.cells? 0 (a.add (i * k)) k = some (((w.cells? 0 (a.add (i * k)) k).getD []))) ∧ G v := by
      intro i hi
      have hi' := hat i hi
      rw [hk] at hi'
      have hget : elems[i]? = some elems[i] := List.getElem?_eq_getElem (by omega)
      rw [hget, Option.bind_eq_some_iff] at hi'
      obtain ⟨cs, hcs, hy⟩ := hi'
      have hb := bulk_mem (List.mem_map_of_mem (f := (·.1)) (List.getElem_mem (l := elems) (n := i) (by omega)))
      obtain ⟨v, hv, hg⟩ := ih n (by omega) cs _ hy (by omega)
      exact ⟨v, ⟨by rw [hcs]; exact hv, by rw [hcs]; rfl⟩, hg⟩
    obtain ⟨l, hl, hl2⟩ := list_of len hone
    refine ⟨l, ?_, fun v hv => ?_, by omega⟩
    · simp only [RV]
      refine ⟨some a, cap, by rw [List.length_map, hl], by simpa [hl] using hle, by simp, by unfold maxLen at hcm; unfold top; omega, by simp, by simp, fun hcap => ?_⟩
      -- some cell is read: the address is a cell's
      have hspot : a.spot = none ∧ a.block < w.heap.size := by
        by_cases hl0 : len = 0
        · obtain ⟨hr, hr2⟩ := hsp rfl
          have hj := hr2 0 (by omega)
          have : rest[0]? = some (rest[0]'(by omega)) := List.getElem?_eq_getElem (by omega)
          rw [this, hk, Option.bind_eq_some_iff] at hj
          obtain ⟨cs, hcs, _⟩ := hj
          obtain ⟨c1, c2⟩ := cells_some hcs
          have := c2 0 hk0
          rw [List.getElem?_eq_getElem (by omega)] at this
          have := cell_spot this
          rw [hl0, Nat.zero_add, Nat.zero_mul, add_z, add_z] at this
          exact this
        · have hj := hat 0 (by omega)
          have : elems[0]? = some (elems[0]'(by omega)) := List.getElem?_eq_getElem (by omega)
          rw [this, hk, Option.bind_eq_some_iff] at hj
          obtain ⟨cs, hcs, _⟩ := hj
          obtain ⟨c1, c2⟩ := cells_some hcs
          have := c2 0 hk0
          rw [List.getElem?_eq_getElem (by omega)] at this
          have := cell_spot this
          rw [Nat.zero_mul, add_z, add_z] at this
          exact this
      obtain ⟨ab, ao, asp⟩ := a
      obtain ⟨hs1, hs2⟩ := hspot
      simp only at hs1 hs2
      subst hs1
      refine ⟨ab, ao, k, rfl, RVmm.of_get fun i x hx => ?_, by simp only [RVmm]⟩
      rw [List.getElem?_map, Option.map_eq_some_iff] at hx
      obtain ⟨v, hv, rfl⟩ := hx
      refine ⟨hlen v, RVm.of_get fun j u hu => ?_⟩
      obtain ⟨⟨q1, q2⟩, _⟩ := hl2 i v hv
      obtain ⟨c1, c2⟩ := cells_some q2
      obtain ⟨c, hc, hr⟩ := q1.get hu
      have hjk : j < k := by have := (List.getElem?_eq_some_iff.1 hu).1; rw [hlen v] at this; exact this
      have := c2 j hjk
      rw [hc, add_none, add_none] at this
      exact ⟨hs2, c, this, hr⟩
    · obtain ⟨i, hi⟩ := List.getElem?_of_mem hv
      exact (hl2 i v hi).2

theorem open_str {fuel : Nat} {t : TypeId} {x : DataW H × List MemPlace} {cs : List Value} (ht : P.underlying t = some .string) (h : DataW.trod enc P w 0 (fun _ => true) true fuel t cs = some x) : ∃ s : List UInt8, RVs (old w) w [.str s] cs ∧ s.length + 1 = Rows.uptoBulk x.1 := by
  obtain ⟨s, rfl, rfl, hs⟩ := DataW.trod_string ht h
  refine ⟨s.data.toList, by simp [RVs, RV, mkStr], by simp [Rows.uptoBulk]⟩
theorem open_int {fuel : Nat} {t : TypeId} {k : IntKind} {x : DataW H × List MemPlace} {cs : List Value} (ht : P.underlying t = some (.int k)) (h : DataW.trod enc P w 0 (fun _ => true) true fuel t cs = some x) : ∃ n, RVs (old w) w [.int k n] cs ∧ k.min ≤ n ∧ n ≤ k.max := by
  obtain ⟨n, rfl, rfl, hs⟩ := DataW.trod_int ht h
  refine ⟨n, by simp [RVs, RV], ?_⟩
  simpa [Lit.wf] using hs
theorem open_bool' {fuel : Nat} {t : TypeId} {x : DataW H × List MemPlace} {cs : List Value} (ht : P.underlying t = some .bool) (h : DataW.trod enc P w 0 (fun _ => true) true fuel t cs = some x) : ∃ b, RVs (old w) w [.bool b] cs := by
  obtain ⟨b, rfl, rfl⟩ := DataW.trod_bool ht h
  exact ⟨b, by simp [RVs, RV]⟩

end

end Go.Proofs.YthjjlmkooofdiaaGreatDoor

/-
  VlZz: values, fields, expressions, resources that are read as data.
-/
namespace Go.Proofs.YthjjlmkooofdiaaGreatDoor
open Go Go.VL

def U8 (k : Int) : Prop := 0 ≤ k ∧ k < 256
def I64 (n : Int) : Prop := -9223372036854775808 ≤ n ∧ n < 9223372036854775808

mutual
/-- numbers that their kinds can hold. -/
def WfV : Val → Prop
  | .mk k n _ l f el _ _ => U8 k ∧ I64 n ∧ U8 el ∧ WfVs l ∧ WfFs f
def WfVs : List Val → Prop
  | [] => True
  | v :: l => WfV v ∧ WfVs l
def WfF : Fld → Prop
  | .mk _ v => WfV v
def WfFs : List Fld → Prop
  | [] => True
  | v :: l => WfF v ∧ WfFs l
end
mutual
/-- numbers that their kinds can hold, lists that are not too long. -/
def WfE : Ex → Prop
  | .mk k n _ args names vals el key acts _ => U8 k ∧ I64 n ∧ U8 el ∧ args.length ≤ 1048576 ∧ names.length ≤ 1048576 ∧ vals.length ≤ 1048576 ∧ key.length ≤ 1048576 ∧ acts.length ≤ 1048576 ∧ WfEs args ∧ WfEs vals ∧ WfEs key ∧ WfAs acts
def WfEs : List Ex → Prop
  | [] => True
  | e :: l => WfE e ∧ WfEs l
def WfA : Ac → Prop
  | .mk k _ e => U8 k ∧ WfE e
def WfAs : List Ac → Prop
  | [] => True
  | a :: l => WfA a ∧ WfAs l
end
theorem WfVs_of {l : List Val} (h : ∀ v ∈ l, Fit v ∧ WfV v) : Fits l ∧ WfVs l := by
  induction l with
  | nil => simp [Fits, WfVs]
  | cons a l ih =>
    obtain ⟨h1, h2⟩ := ih fun v hv => h v (by simp [hv])
    obtain ⟨h3, h4⟩ := h a (by simp)
    simp only [Fits, WfVs]; exact ⟨⟨h3, h1⟩, h4, h2⟩
theorem WfFs_of {l : List Fld} (h : ∀ v ∈ l, FitF v ∧ WfF v) : FitFs l ∧ WfFs l := by
  induction l with
  | nil => simp [FitFs, WfFs]
  | cons a l ih =>
    obtain ⟨h1, h2⟩ := ih fun v hv => h v (by simp [hv])
    obtain ⟨h3, h4⟩ := h a (by simp)
    simp only [FitFs, WfFs]; exact ⟨⟨h3, h1⟩, h4, h2⟩
theorem WfEs_of {l : List Ex} (h : ∀ v ∈ l, WfE v) : WfEs l := by
  induction l with
  | nil => simp [WfEs]
  | cons a l ih => simp only [WfEs]; exact ⟨h a (by simp), ih fun v hv => h v (by simp [hv])⟩
theorem WfAs_of {l : List Ac} (h : ∀ v ∈ l, WfA v) : WfAs l := by
  induction l with
  | nil => simp [WfAs]
  | cons a l ih => simp only [WfAs]; exact ⟨h a (by simp), ih fun v hv => h v (by simp [hv])⟩

theorem c43 : Tryz.prog.cellsOf 43 = 8 := by kernel_rfl
theorem c53 : Tryz.prog.cellsOf 53 = 9 := by kernel_rfl
theorem c30 : Tryz.prog.cellsOf 30 = 10 := by kernel_rfl
theorem c89 : Tryz.prog.cellsOf 89 = 12 := by kernel_rfl
theorem c50 : Tryz.prog.cellsOf 50 = 10 := by kernel_rfl
theorem c32 : Tryz.prog.cellsOf 32 = 15 := by kernel_rfl
theorem c9 : Tryz.prog.cellsOf 9 = 1 := by kernel_rfl
theorem c2 : Tryz.prog.cellsOf 2 = 1 := by kernel_rfl
theorem c3 : Tryz.prog.cellsOf 3 = 1 := by kernel_rfl
theorem c4 : Tryz.prog.cellsOf 4 = 1 := by kernel_rfl
theorem c40 : Tryz.prog.cellsOf 40 = 1 := by kernel_rfl
theorem c41 : Tryz.prog.cellsOf 41 = 1 := by kernel_rfl
theorem c23 : Tryz.prog.cellsOf 23 = 1 := by kernel_rfl
theorem c27 : Tryz.prog.cellsOf 27 = 1 := by kernel_rfl
theorem c24 : Tryz.prog.cellsOf 24 = 1 := by kernel_rfl
theorem c25 : Tryz.prog.cellsOf 25 = 1 := by kernel_rfl
theorem c26 : Tryz.prog.cellsOf 26 = 1 := by kernel_rfl
theorem c28 : Tryz.prog.cellsOf 28 = 1 := by kernel_rfl
theorem c87 : Tryz.prog.cellsOf 87 = 1 := by kernel_rfl
theorem c22 : Tryz.prog.cellsOf 22 = 1 := by kernel_rfl

theorem u8Uof {n : Int} (h1 : IntKind.u8.min ≤ n) (h2 : n ≤ IntKind.u8.max) : U8 n := by
  simp [IntKind.min, IntKind.max, IntKind.signed, IntKind.bits] at h1 h2
  exact ⟨h1, by omega⟩
theorem i64Uof {n : Int} (h1 : IntKind.i64.min ≤ n) (h2 : n ≤ IntKind.i64.max) : I64 n := by
  simp [IntKind.min, IntKind.max, IntKind.signed, IntKind.bits] at h1 h2
  exact ⟨by omega, by omega⟩

theorem len2 {α : Type} {l : List α} (h : l.length = 2) : ∃ a b, l = [a, b] := by
  obtain ⟨a, l, rfl⟩ := List.exists_cons_of_length_eq_add_one h
  obtain ⟨b, l, rfl⟩ := List.exists_cons_of_length_eq_add_one (n := 0) (by simpa using h)
  have : l = [] := by simpa using h
  subst this; exact ⟨a, b, rfl⟩
theorem len3 {α : Type} {l : List α} (h : l.length = 3) : ∃ a b c, l = [a, b, c] := by
  obtain ⟨a, l, rfl⟩ := List.exists_cons_of_length_eq_add_one h
  obtain ⟨b, c, rfl⟩ := len2 (l := l) (by simpa using h)
  exact ⟨a, b, c, rfl⟩
theorem len6 {α : Type} {l : List α} (h : l.length = 6) : ∃ a b c d e f, l = [a, b, c, d, e, f] := by
  obtain ⟨a, l, rfl⟩ := List.exists_cons_of_length_eq_add_one h
  obtain ⟨b, l, rfl⟩ := List.exists_cons_of_length_eq_add_one (n := 4) (by simpa using h)
  obtain ⟨c, l, rfl⟩ := List.exists_cons_of_length_eq_add_one (n := 3) (by simpa using h)
  obtain ⟨d, e, f, rfl⟩ := len3 (l := l) (by simpa using h)
  exact ⟨a, b, c, d, e, f, rfl⟩
theorem len8 {α : Type} {l : List α} (h : l.length = 8) : ∃ a b c d e f g i, l = [a, b, c, d, e, f, g, i] := by
  obtain ⟨a, l, rfl⟩ := List.exists_cons_of_length_eq_add_one h
  obtain ⟨b, l, rfl⟩ := List.exists_cons_of_length_eq_add_one (n := 6) (by simpa using h)
  obtain ⟨c, d, e, f, g, i, rfl⟩ := len6 (l := l) (by simpa using h)
  exact ⟨a, b, c, d, e, f, g, i, rfl⟩
theorem len10 {α : Type} {l : List α} (h : l.length = 10) : ∃ a b c d e f g i j k, l = [a, b, c, d, e, f, g, i, j, k] := by
  obtain ⟨a, l, rfl⟩ := List.exists_cons_of_length_eq_add_one h
  obtain ⟨b, l, rfl⟩ := List.exists_cons_of_length_eq_add_one (n := 8) (by simpa using h)
  obtain ⟨c, d, e, f, g, i, j, k, rfl⟩ := len8 (l := l) (by simpa using h)
  exact ⟨a, b, c, d, e, f, g, i, j, k, rfl⟩

section
variable {H : Type} {enc : TypeId × Value → H} {w : World}

theorem sole {_xs : List V} {v : V} {c : Value} {I : Nat → Nat → Prop} (h : RVs I w [v] [c]) : RV I w v c := by
  simp only [RVs] at h; exact h.1

theorem fld_step {B N : Nat} (ih : ∀ m, m < N → ∀ (cs : List Value) (y : DataW H × List MemPlace), DataW.trod enc Tryz.prog w 0 (fun _ => true) true m 43 cs = some y → Rows.uptoBulk y.1 ≤ B → ∃ v : Val, RVs (old w) w v.cells cs ∧ Fit v ∧ WfV v)
    (j : Nat) (hj : j < N) (cs : List Value) (y : DataW H × List MemPlace) (h : DataW.trod enc Tryz.prog w 0 (fun _ => true) true j 53 cs = some y) (hb : Rows.uptoBulk y.1 ≤ B) : ∃ v : Fld, RVs (old w) w v.cells cs ∧ FitF v ∧ WfF v := by
  obtain ⟨zs, n', rfl, rfl, hcl, hzl, hf⟩ := DataW.trod_struct Tryz.underlying53 h
  rw [c53] at hcl
  have hzl : zs.length = 2 := hzl
  obtain ⟨z0, z1, rfl⟩ := len2 hzl
  obtain ⟨c0, ct, rfl⟩ := List.exists_cons_of_length_eq_add_one hcl
  have hct : ct.length = 8 := by simpa using hcl
  have f0 : DataW.trod enc Tryz.prog w 0 (fun _ => true) true n' 9 (((c0 :: ct).drop 0).take (Tryz.prog.cellsOf 9)) = some z0 := hf 0 ⟨ "Name", 9, 0, false, "", "", 0⟩ rfl
  have f1 : DataW.trod enc Tryz.prog w 0 (fun _ => true) true n' 43 (((c0 :: ct).drop 1).take (Tryz.prog.cellsOf 43)) = some z1 := hf 1 ⟨ "Value", 43, 1, false, "", "", 16⟩ rfl
  simp only [c9, c43, List.drop_succ_cons, List.drop_zero, List.take_succ_cons, List.take_zero] at f0 f1
  rw [← hct, List.take_length] at f1
  simp only [List.map_cons, List.map_nil, Rows.uptoBulk, Rows.uptoBulkAll] at hb
  obtain ⟨s, r0, _⟩ := open_str Tryz.underlying9 f0
  obtain ⟨v, r1, h1, h2⟩ := ih n' (by omega) ct _ f1 (by omega)
  refine ⟨.mk s v, ?_, by simpa only [FitF] using h1, by simpa only [WfF] using h2⟩
  simp only [Fld.cells, RVs] at r0 ⊢
  exact ⟨r0.1, r1⟩

theorem open_val {B : Nat} (hB : B ≤ 1048576) : ∀ (fuel : Nat) (cs : List Value) (y : DataW H × List MemPlace), DataW.trod enc Tryz.prog w 0 (fun _ => true) true fuel 43 cs = some y → Rows.uptoBulk y.1 ≤ B →
    ∃ v : Val, RVs (old w) w v.cells cs ∧ Fit v ∧ WfV v := by
  intro fuel
  induction fuel using Nat.strongRecOn with
  | _ fuel ih =>
    intro cs y h hb
    obtain ⟨xs, n, rfl, rfl, hcl, hxl, hf⟩ := DataW.trod_struct Tryz.underlying43 h
    rw [c43] at hcl
    have hxl : xs.length = 8 := hxl
    obtain ⟨x0, x1, x2, x3, x4, x5, x6, x7, rfl⟩ := len8 hxl
    obtain ⟨a0, a1, a2, a3, a4, a5, a6, a7, rfl⟩ := len8 hcl
    have f0 : DataW.trod enc Tryz.prog w 0 (fun _ => true) true n 40 (([a0, a1, a2, a3, a4, a5, a6, a7].drop 0).take (Tryz.prog.cellsOf 40)) = some x0 := hf 0 ⟨ "Kind", 40, 0, false, "", "", 0⟩ rfl
    have f1 : DataW.trod enc Tryz.prog w 0 (fun _ => true) true n 2 (([a0, a1, a2, a3, a4, a5, a6, a7].drop 1).take (Tryz.prog.cellsOf 2)) = some x1 := hf 1 ⟨ "N", 2, 1, false, "", "", 8⟩ rfl
    have f2 : DataW.trod enc Tryz.prog w 0 (fun _ => true) true n 9 (([a0, a1, a2, a3, a4, a5, a6, a7].drop 2).take (Tryz.prog.cellsOf 9)) = some x2 := hf 2 ⟨ "S", 9, 2, false, "", "", 16⟩ rfl
    have f3 : DataW.trod enc Tryz.prog w 0 (fun _ => true) true n 41 (([a0, a1, a2, a3, a4, a5, a6, a7].drop 3).take (Tryz.prog.cellsOf 41)) = some x3 := hf 3 ⟨ "L", 41, 3, false, "", "", 32⟩ rfl
    have f4 : DataW.trod enc Tryz.prog w 0 (fun _ => true) true n 23 (([a0, a1, a2, a3, a4, a5, a6, a7].drop 4).take (Tryz.prog.cellsOf 23)) = some x4 := hf 4 ⟨ "F", 23, 4, false, "", "", 56⟩ rfl
    have f5 : DataW.trod enc Tryz.prog w 0 (fun _ => true) true n 27 (([a0, a1, a2, a3, a4, a5, a6, a7].drop 5).take (Tryz.prog.cellsOf 27)) = some x5 := hf 5 ⟨ "Elem", 27, 5, false, "", "", 80⟩ rfl
    have f6 : DataW.trod enc Tryz.prog w 0 (fun _ => true) true n 9 (([a0, a1, a2, a3, a4, a5, a6, a7].drop 6).take (Tryz.prog.cellsOf 9)) = some x6 := hf 6 ⟨ "Key", 9, 6, false, "", "", 88⟩ rfl
    have f7 : DataW.trod enc Tryz.prog w 0 (fun _ => true) true n 4 (([a0, a1, a2, a3, a4, a5, a6, a7].drop 7).take (Tryz.prog.cellsOf 4)) = some x7 := hf 7 ⟨ "HasKey", 4, 7, false, "", "", 104⟩ rfl
    simp only [c40, c2, c9, c41, c23, c27, c4, List.drop_succ_cons, List.drop_zero, List.take_succ_cons, List.take_zero] at f0 f1 f2 f3 f4 f5 f6 f7
    simp only [List.map_cons, List.map_nil, Rows.uptoBulk, Rows.uptoBulkAll] at hb
    obtain ⟨k, r0, k1, k2⟩ := open_int Tryz.underlying40 f0
    obtain ⟨m, r1, m1, m2⟩ := open_int Tryz.underlying2 f1
    obtain ⟨s, r2, _⟩ := open_str Tryz.underlying9 f2
    obtain ⟨l, r3, hl, hll⟩ := open_sl (cells := Val.cells) (G := fun v => Fit v ∧ WfV v) (k := 8) (B := B) (by decide) c43 Tryz.underlying41 Val.len (fun j hj cs y h hb => ih j (by omega) cs y h hb) f3 (by omega)
    obtain ⟨f, r4, hff, hfl⟩ := open_sl (cells := Fld.cells) (G := fun v => FitF v ∧ WfF v) (k := 9) (B := B) (by decide) c53 Tryz.underlying23 Fld.len (fun j hj cs y h hb => fld_step (fun m hm => ih m (by omega)) j hj cs y h hb) f4 (by omega)
    obtain ⟨el, r5, e1, e2⟩ := open_int Tryz.underlying27 f5
    obtain ⟨key, r6, _⟩ := open_str Tryz.underlying9 f6
    obtain ⟨has, r7⟩ := open_bool' Tryz.underlying4 f7
    obtain ⟨g1, g2⟩ := WfVs_of hl
    obtain ⟨g3, g4⟩ := WfFs_of hff
    refine ⟨.mk k m s l f el key has, ?_, ?_, ?_⟩
    · simp only [Val.cells, RVs, Val.rows_eq, Fld.rows_eq]
      simp only [RVs, and_true] at r0 r1 r2 r5 r6 r7
      exact ⟨r0, r1, r2, r3, r4, r5, r6, r7, trivial⟩
    · simp only [Fit]; exact ⟨by omega, by omega, g1, g3⟩
    · simp only [WfV]; exact ⟨u8Uof k1 k2, i64Uof m1 m2, u8Uof e1 e2, g2, g4⟩

theorem open_fld {B : Nat} (hB : B ≤ 1048576) (j : Nat) (cs : List Value) (y : DataW H × List MemPlace) (h : DataW.trod enc Tryz.prog w 0 (fun _ => true) true j 53 cs = some y) (hb : Rows.uptoBulk y.1 ≤ B) :
    ∃ v : Fld, RVs (old w) w v.cells cs ∧ FitF v ∧ WfF v := fld_step (N := j + 1) (fun m _ => open_val hB m) j (by omega) cs y h hb

theorem act_step {B N : Nat} (ih : ∀ m, m < N → ∀ (cs : List Value) (y : DataW H × List MemPlace), DataW.trod enc Tryz.prog w 0 (fun _ => true) true m 30 cs = some y → Rows.uptoBulk y.1 ≤ B → ∃ v : Ex, RVs (old w) w v.cells cs ∧ WfE v)
    (j : Nat) (hj : j < N) (cs : List Value) (y : DataW H × List MemPlace) (h : DataW.trod enc Tryz.prog w 0 (fun _ => true) true j 89 cs = some y) (hb : Rows.uptoBulk y.1 ≤ B) : ∃ v : Ac, RVs (old w) w v.cells cs ∧ WfA v := by
  obtain ⟨zs, n', rfl, rfl, hcl, hzl, hf⟩ := DataW.trod_struct Tryz.underlying89 h
  rw [c89] at hcl
  have hzl : zs.length = 3 := hzl
  obtain ⟨z0, z1, z2, rfl⟩ := len3 hzl
  obtain ⟨c0, ct, rfl⟩ := List.exists_cons_of_length_eq_add_one hcl
  obtain ⟨c1, ct, rfl⟩ := List.exists_cons_of_length_eq_add_one (n := 10) (by simpa using hcl)
  have hct : ct.length = 10 := by simpa using hcl
  have f0 : DataW.trod enc Tryz.prog w 0 (fun _ => true) true n' 87 (((c0 :: c1 :: ct).drop 0).take (Tryz.prog.cellsOf 87)) = some z0 := hf 0 ⟨ "Kind", 87, 0, false, "", "", _⟩ rfl
  have f1 : DataW.trod enc Tryz.prog w 0 (fun _ => true) true n' 9 (((c0 :: c1 :: ct).drop 1).take (Tryz.prog.cellsOf 9)) = some z1 := hf 1 ⟨ "Name", 9, 1, false, "", "", _⟩ rfl
  have f2 : DataW.trod enc Tryz.prog w 0 (fun _ => true) true n' 30 (((c0 :: c1 :: ct).drop 2).take (Tryz.prog.cellsOf 30)) = some z2 := hf 2 ⟨ "Expr", 30, 2, false, "", "", _⟩ rfl
  simp only [c87, c9, c30, List.drop_succ_cons, List.drop_zero, List.take_succ_cons, List.take_zero] at f0 f1 f2
  rw [← hct, List.take_length] at f2
  simp only [List.map_cons, List.map_nil, Rows.uptoBulk, Rows.uptoBulkAll] at hb
  obtain ⟨k, r0, k1, k2⟩ := open_int Tryz.underlying87 f0
  obtain ⟨s, r1, _⟩ := open_str Tryz.underlying9 f1
  obtain ⟨e, r2, h1⟩ := ih n' (by omega) ct _ f2 (by omega)
  refine ⟨.mk k s e, ?_, by simp only [WfA]; exact ⟨u8Uof k1 k2, h1⟩⟩
  simp only [Ac.cells, RVs] at r0 r1 ⊢
  exact ⟨r0.1, r1.1, r2⟩

theorem open_ex {B : Nat} (hB : B ≤ 1048576) : ∀ (fuel : Nat) (cs : List Value) (y : DataW H × List MemPlace), DataW.trod enc Tryz.prog w 0 (fun _ => true) true fuel 30 cs = some y → Rows.uptoBulk y.1 ≤ B →
    ∃ v : Ex, RVs (old w) w v.cells cs ∧ WfE v := by
  intro fuel
  induction fuel using Nat.strongRecOn with
  | _ fuel ih =>
    intro cs y h hb
    obtain ⟨xs, n, rfl, rfl, hcl, hxl, hf⟩ := DataW.trod_struct Tryz.underlying30 h
    rw [c30] at hcl
    have hxl : xs.length = 10 := hxl
    obtain ⟨x0, x1, x2, x3, x4, x5, x6, x7, x8, x9, rfl⟩ := len10 hxl
    obtain ⟨a0, a1, a2, a3, a4, a5, a6, a7, a8, a9, rfl⟩ := len10 hcl
    have f0 : DataW.trod enc Tryz.prog w 0 (fun _ => true) true n 24 (([a0, a1, a2, a3, a4, a5, a6, a7, a8, a9].drop 0).take (Tryz.prog.cellsOf 24)) = some x0 := hf 0 ⟨ "Kind", 24, 0, false, "", "", _⟩ rfl
    have f1 : DataW.trod enc Tryz.prog w 0 (fun _ => true) true n 2 (([a0, a1, a2, a3, a4, a5, a6, a7, a8, a9].drop 1).take (Tryz.prog.cellsOf 2)) = some x1 := hf 1 ⟨ "N", 2, 1, false, "", "", _⟩ rfl
    have f2 : DataW.trod enc Tryz.prog w 0 (fun _ => true) true n 9 (([a0, a1, a2, a3, a4, a5, a6, a7, a8, a9].drop 2).take (Tryz.prog.cellsOf 9)) = some x2 := hf 2 ⟨ "S", 9, 2, false, "", "", _⟩ rfl
    have f3 : DataW.trod enc Tryz.prog w 0 (fun _ => true) true n 25 (([a0, a1, a2, a3, a4, a5, a6, a7, a8, a9].drop 3).take (Tryz.prog.cellsOf 25)) = some x3 := hf 3 ⟨ "Args", 25, 3, false, "", "", _⟩ rfl
    have f4 : DataW.trod enc Tryz.prog w 0 (fun _ => true) true n 26 (([a0, a1, a2, a3, a4, a5, a6, a7, a8, a9].drop 4).take (Tryz.prog.cellsOf 26)) = some x4 := hf 4 ⟨ "Names", 26, 4, false, "", "", _⟩ rfl
    have f5 : DataW.trod enc Tryz.prog w 0 (fun _ => true) true n 25 (([a0, a1, a2, a3, a4, a5, a6, a7, a8, a9].drop 5).take (Tryz.prog.cellsOf 25)) = some x5 := hf 5 ⟨ "Vals", 25, 5, false, "", "", _⟩ rfl
    have f6 : DataW.trod enc Tryz.prog w 0 (fun _ => true) true n 27 (([a0, a1, a2, a3, a4, a5, a6, a7, a8, a9].drop 6).take (Tryz.prog.cellsOf 27)) = some x6 := hf 6 ⟨ "Elem", 27, 6, false, "", "", _⟩ rfl
    have f7 : DataW.trod enc Tryz.prog w 0 (fun _ => true) true n 25 (([a0, a1, a2, a3, a4, a5, a6, a7, a8, a9].drop 7).take (Tryz.prog.cellsOf 25)) = some x7 := hf 7 ⟨ "Key", 25, 7, false, "", "", _⟩ rfl
    have f8 : DataW.trod enc Tryz.prog w 0 (fun _ => true) true n 28 (([a0, a1, a2, a3, a4, a5, a6, a7, a8, a9].drop 8).take (Tryz.prog.cellsOf 28)) = some x8 := hf 8 ⟨ "Acts", 28, 8, false, "", "", _⟩ rfl
    have f9 : DataW.trod enc Tryz.prog w 0 (fun _ => true) true n 9 (([a0, a1, a2, a3, a4, a5, a6, a7, a8, a9].drop 9).take (Tryz.prog.cellsOf 9)) = some x9 := hf 9 ⟨ "Site", 9, 9, false, "", "", _⟩ rfl
    simp only [c24, c2, c9, c25, c26, c27, c28, List.drop_succ_cons, List.drop_zero, List.take_succ_cons, List.take_zero] at f0 f1 f2 f3 f4 f5 f6 f7 f8 f9
    simp only [List.map_cons, List.map_nil, Rows.uptoBulk, Rows.uptoBulkAll] at hb
    obtain ⟨k, r0, k1, k2⟩ := open_int Tryz.underlying24 f0
    obtain ⟨m, r1, m1, m2⟩ := open_int Tryz.underlying2 f1
    obtain ⟨s, r2, _⟩ := open_str Tryz.underlying9 f2
    have exs : ∀ {x : DataW H × List MemPlace} {cv : Value}, DataW.trod enc Tryz.prog w 0 (fun _ => true) true n 25 [cv] = some x → Rows.uptoBulk x.1 ≤ B → ∃ l : List Ex, RV (old w) w (.sl (l.map Ex.cells) [] false none) cv ∧ (∀ v ∈ l, WfE v) ∧ l.length ≤ B := fun h hb =>
      open_sl (cells := Ex.cells) (G := WfE) (k := 10) (B := B) (by decide) c30 Tryz.underlying25 Ex.len (fun j hj cs y h hb => ih j (by omega) cs y h hb) h hb
    obtain ⟨args, r3, ha, hal⟩ := exs f3 (by omega)
    obtain ⟨names, r4, _, hnl⟩ := open_sl (cells := fun s : List UInt8 => [V.str s]) (G := fun _ => True) (k := 1) (B := B) (by decide) c9 Tryz.underlying26 (fun _ => rfl) (fun j hj cs y h hb => by
      obtain ⟨s, r, _⟩ := open_str Tryz.underlying9 h
      exact ⟨s, r, trivial⟩) f4 (by omega)
    obtain ⟨vals, r5, hv, hvl⟩ := exs f5 (by omega)
    obtain ⟨el, r6, e1, e2⟩ := open_int Tryz.underlying27 f6
    obtain ⟨key, r7, hk, hkl⟩ := exs f7 (by omega)
    obtain ⟨acts, r8, hac, hacl⟩ := open_sl (cells := Ac.cells) (G := WfA) (k := 12) (B := B) (by decide) c89 Tryz.underlying28 Ac.len (fun j hj cs y h hb => act_step (N := n) (fun m hm => ih m (by omega)) j hj cs y h hb) f8 (by omega)
    obtain ⟨site, r9, _⟩ := open_str Tryz.underlying9 f9
    refine ⟨.mk k m s args names vals el key acts site, ?_, ?_⟩
    · simp only [Ex.cells, RVs, Ex.rows_eq, Ac.rows_eq, txtRows]
      simp only [RVs, and_true] at r0 r1 r2 r6 r9
      exact ⟨r0, r1, r2, r3, r4, r5, r6, r7, r8, r9, trivial⟩
    · simp only [WfE]
      exact ⟨u8Uof k1 k2, i64Uof m1 m2, u8Uof e1 e2, by omega, by omega, by omega, by omega, by omega, WfEs_of ha, WfEs_of hv, WfEs_of hk, WfAs_of hac⟩

theorem open_rs {B : Nat} (hB : B ≤ 1048576) (j : Nat) (cs : List Value) (y : DataW H × List MemPlace) (h : DataW.trod enc Tryz.prog w 0 (fun _ => true) true j 50 cs = some y) (hb : Rows.uptoBulk y.1 ≤ B) :
    ∃ v : Rs, RVs (old w) w v.cells cs ∧ Fit v.v ∧ WfV v.v := by
  obtain ⟨zs, n', rfl, rfl, hcl, hzl, hf⟩ := DataW.trod_struct Tryz.underlying50 h
  rw [c50] at hcl
  have hzl : zs.length = 3 := hzl
  obtain ⟨z0, z1, z2, rfl⟩ := len3 hzl
  obtain ⟨c0, ct, rfl⟩ := List.exists_cons_of_length_eq_add_one hcl
  obtain ⟨c1, ct, rfl⟩ := List.exists_cons_of_length_eq_add_one (n := 8) (by simpa using hcl)
  have hct : ct.length = 8 := by simpa using hcl
  have f0 : DataW.trod enc Tryz.prog w 0 (fun _ => true) true n' 9 (((c0 :: c1 :: ct).drop 0).take (Tryz.prog.cellsOf 9)) = some z0 := hf 0 ⟨ "Key", 9, 0, false, "", "", _⟩ rfl
  have f1 : DataW.trod enc Tryz.prog w 0 (fun _ => true) true n' 4 (((c0 :: c1 :: ct).drop 1).take (Tryz.prog.cellsOf 4)) = some z1 := hf 1 ⟨ "Fails", 4, 1, false, "", "", _⟩ rfl
  have f2 : DataW.trod enc Tryz.prog w 0 (fun _ => true) true n' 43 (((c0 :: c1 :: ct).drop 2).take (Tryz.prog.cellsOf 43)) = some z2 := hf 2 ⟨ "Value", 43, 2, false, "", "", _⟩ rfl
  simp only [c4, c9, c43, List.drop_succ_cons, List.drop_zero, List.take_succ_cons, List.take_zero] at f0 f1 f2
  rw [← hct, List.take_length] at f2
  simp only [List.map_cons, List.map_nil, Rows.uptoBulk, Rows.uptoBulkAll] at hb
  obtain ⟨s, r0, _⟩ := open_str Tryz.underlying9 f0
  obtain ⟨b, r1⟩ := open_bool' Tryz.underlying4 f1
  obtain ⟨v, r2, h1, h2⟩ := open_val hB n' ct _ f2 (by omega)
  refine ⟨⟨s, b, v⟩, ?_, h1, h2⟩
  simp only [Rs.cells, RVs] at r0 r1 ⊢
  exact ⟨r0.1, r1.1, r2⟩

/-- what comes in, as it is read. -/
structure OkIn (x : In) : Prop where
  come : x.come.length ≤ 1048576
  comes : ∀ r ∈ x.come, Fit r.v ∧ WfV r.v
  fuel : I64 x.fuel
  inst : I64 x.inst
  env : x.env.length ≤ 1048576
  envs : FitFs x.env ∧ WfFs x.env
  e : WfE x.e
  l : x.l.length ≤ 1048576
  ls : WfEs x.l

theorem open_in {B : Nat} (hB : B ≤ 1048576) (j : Nat) (cs : List Value) (y : DataW H × List MemPlace) (h : DataW.trod enc Tryz.prog w 0 (fun _ => true) true j 32 cs = some y) (hb : Rows.uptoBulk y.1 ≤ B) :
    ∃ x : In, RVs (old w) w x.cells cs ∧ OkIn x := by
  obtain ⟨zs, n', rfl, rfl, hcl, hzl, hf⟩ := DataW.trod_struct Tryz.underlying32 h
  rw [c32] at hcl
  have hzl : zs.length = 6 := hzl
  obtain ⟨z0, z1, z2, z3, z4, z5, rfl⟩ := len6 hzl
  obtain ⟨c0, ct, rfl⟩ := List.exists_cons_of_length_eq_add_one hcl
  obtain ⟨c1, ct, rfl⟩ := List.exists_cons_of_length_eq_add_one (n := 13) (by simpa using hcl)
  obtain ⟨c2, ct, rfl⟩ := List.exists_cons_of_length_eq_add_one (n := 12) (by simpa using hcl)
  obtain ⟨c3', ct, rfl⟩ := List.exists_cons_of_length_eq_add_one (n := 11) (by simpa using hcl)
  have hct : ct.length = 11 := by simpa using hcl
  have f0 : DataW.trod enc Tryz.prog w 0 (fun _ => true) true n' 22 (((c0 :: c1 :: c2 :: c3' :: ct).drop 0).take (Tryz.prog.cellsOf 22)) = some z0 := hf 0 ⟨ "Come", 22, 0, false, "", "", _⟩ rfl
  have f1 : DataW.trod enc Tryz.prog w 0 (fun _ => true) true n' 3 (((c0 :: c1 :: c2 :: c3' :: ct).drop 1).take (Tryz.prog.cellsOf 3)) = some z1 := hf 1 ⟨ "Fuel", 3, 1, false, "", "", _⟩ rfl
  have f2 : DataW.trod enc Tryz.prog w 0 (fun _ => true) true n' 3 (((c0 :: c1 :: c2 :: c3' :: ct).drop 2).take (Tryz.prog.cellsOf 3)) = some z2 := hf 2 ⟨ "Inst", 3, 2, false, "", "", _⟩ rfl
  have f3 : DataW.trod enc Tryz.prog w 0 (fun _ => true) true n' 23 (((c0 :: c1 :: c2 :: c3' :: ct).drop 3).take (Tryz.prog.cellsOf 23)) = some z3 := hf 3 ⟨ "Env", 23, 3, false, "", "", _⟩ rfl
  have f4 : DataW.trod enc Tryz.prog w 0 (fun _ => true) true n' 30 (((c0 :: c1 :: c2 :: c3' :: ct).drop 4).take (Tryz.prog.cellsOf 30)) = some z4 := hf 4 ⟨ "E", 30, 4, false, "", "", _⟩ rfl
  have f5 : DataW.trod enc Tryz.prog w 0 (fun _ => true) true n' 25 (((c0 :: c1 :: c2 :: c3' :: ct).drop 14).take (Tryz.prog.cellsOf 25)) = some z5 := hf 5 ⟨ "L", 25, 14, false, "", "", _⟩ rfl
  simp only [c22, c3, c23, c30, c25, List.drop_succ_cons, List.drop_zero, List.take_succ_cons, List.take_zero] at f0 f1 f2 f3 f4 f5
  obtain ⟨cl, hcl'⟩ : ∃ cl, ct.drop 10 = [cl] := by
    have : (ct.drop 10).length = 1 := by simp [hct]
    exact List.length_eq_one_iff.1 this
  rw [hcl', List.take_succ_cons, List.take_zero] at f5
  simp only [List.map_cons, List.map_nil, Rows.uptoBulk, Rows.uptoBulkAll] at hb
  obtain ⟨come, r0, h0, l0⟩ := open_sl (cells := Rs.cells) (G := fun v => Fit v.v ∧ WfV v.v) (k := 10) (B := B) (by decide) c50 Tryz.underlying22 Rs.len (fun j _ cs y h hb => open_rs hB j cs y h hb) f0 (by omega)
  obtain ⟨fuel, r1, k1, k2⟩ := open_int Tryz.underlying3 f1
  obtain ⟨inst, r2, i1, i2⟩ := open_int Tryz.underlying3 f2
  obtain ⟨env, r3, h3, l3⟩ := open_sl (cells := Fld.cells) (G := fun v => FitF v ∧ WfF v) (k := 9) (B := B) (by decide) c53 Tryz.underlying23 Fld.len (fun j _ cs y h hb => open_fld hB j cs y h hb) f3 (by omega)
  obtain ⟨e, r4, h4⟩ := open_ex hB n' _ _ f4 (by omega)
  obtain ⟨l, r5, h5, l5⟩ := open_sl (cells := Ex.cells) (G := WfE) (k := 10) (B := B) (by decide) c30 Tryz.underlying25 Ex.len (fun j _ cs y h hb => open_ex hB j cs y h hb) f5 (by omega)
  refine ⟨⟨come, fuel, inst, env, e, l⟩, ?_, ⟨by simp only; omega, h0, i64Uof k1 k2, i64Uof i1 i2, by simp only; omega, WfFs_of h3, h4, by simp only; omega, WfEs_of h5⟩⟩
  simp only [In.cells, RVs, Fld.rows_eq, Ex.rows_eq]
  simp only [RVs, and_true] at r1 r2
  refine ⟨r0, r1, r2, r3, ?_⟩
  have := RVs.append r4 (show RVs (old w) w [.sl (l.map Ex.cells) [] false none] [cl] from by simp only [RVs]; exact ⟨r5, trivial⟩)
  rwa [← hcl', List.take_append_drop] at this

end

end Go.Proofs.YthjjlmkooofdiaaGreatDoor

/-
  VlZza: EvalHides: whatever is read, the call returns true and leaves all that was there; its card.
-/
namespace Go.Proofs.YthjjlmkooofdiaaGreatDoor
open Go Go.VL Go.ChangeShapes Go.WideShapes Go.ChangeAt Go.RowKit
open Go.ChangeMaps (open_string shut_string)
set_option maxRecDepth 100000

theorem ownK : ownKnob Tryz.prog.godebug = none := by kernel_rfl
theorem laidOutT : laidOutB Tryz.prog = true := by kernel_rfl

/-- nothing is owned. -/
def H0 : H := { c := fun _ => none, f := fun _ => none, g := [] }

theorem relH0 (W : World) : RelH (old W) H0 W :=
  ⟨fun _ _ h => (by cases h), fun _ _ _ h => (by cases h), fun _ h => (by cases h), fun _ _ h => (h), fun _ _ h => (by cases h)⟩

theorem below_of {I I' : Nat → Nat → Prop} {s' : H} {W W' : World} (h : Sin I H0 W I' s' W') : Below W.heap.size W W' :=
  ⟨h.os, h.tape, h.output, h.size, fun k hk => h.same k (by rintro (h | h | h) <;> exact h rfl) hk⟩

/-- what a statement's row asks behind the call: true, and all arguments as they were. -/
theorem post_law {H' : Type} {enc : TypeId × Value → H'} {f : Func} {s : ChangeSpec} {W W' : World} {args : Array Value} {ds gs : List (DataW H')} {before : List MemPlace}
    (hW : DataW.Whole enc Tryz.prog f.params.toList s.vars false W args.toList ds gs before) (hv : s.vars = []) (hres : f.resultTypes = #[4]) (hs : s.fn H' ds = { results := [.lit (.bool true)], args := ds })
    (hp : ∀ t ∈ f.params.toList, Tryz.prog.readableRec t = true ∧ t < Tryz.prog.types.size) (hb : Below W.heap.size W W') :
    s.post enc Tryz.prog f false true false false W args (.bool true) W' := by
  have hlt : ∀ p ∈ before, p.block < W.heap.size := fun p hp => hW.lt p hp
  have hW' := hW
  obtain ⟨p, q, hA, hV, rfl, _, _⟩ := hW
  have hgs : gs = [] ∧ q = [] := by
    rw [hv] at hV
    cases gs with
    | nil => exact ⟨rfl, by simpa only [DataW.TrodVars] using hV⟩
    | cons g gs => simp only [DataW.TrodVars] at hV
  obtain ⟨rfl, rfl⟩ := hgs
  have keep : ∀ (ts : List TypeId) (vs : List Value) (ds : List (DataW H')) (ps : List MemPlace), (∀ t ∈ ts, Tryz.prog.readableRec t = true ∧ t < Tryz.prog.types.size) → (∀ x ∈ ps, x.block < W.heap.size) → DataW.TrodAll enc Tryz.prog W 0 (fun _ => true) true ts vs ds ps →
      DataW.TrodAll enc Tryz.prog W' 0 (fun b => decide (b < W.heap.size)) true ts vs ds ps := by
    intro ts
    induction ts with
    | nil =>
      intro vs ds ps _ _ h
      cases vs <;> cases ds <;> simp only [DataW.TrodAll] at h ⊢ <;> exact h
    | cons t ts ih =>
      intro vs ds ps ht hl h
      cases vs with
      | nil => simp only [DataW.TrodAll] at h
      | cons v vs =>
        cases ds with
        | nil => simp only [DataW.TrodAll] at h
        | cons d ds =>
          simp only [DataW.TrodAll] at h ⊢
          obtain ⟨p1, q1, h1, h2, rfl⟩ := h
          exact ⟨p1, q1, Below.trod laidOutT (ht t (by simp)).1 (ht t (by simp)).2 h1 hb (fun x hx => hl x (by simp [hx])), ih vs ds q1 (fun t' h' => ht t' (by simp [h'])) (fun x hx => hl x (by simp [hx])) h2, rfl⟩
  simp only [List.append_nil] at hlt hW'
  have hspec : s.fn H' (ds ++ []) = { results := [.lit (.bool true)], args := ds } := by rw [List.append_nil]; exact hs
  refine ⟨ds, [], p, [], p, [], by simpa using hW', ?_, ?_, ?_, hb.frame _, fun h => by cases h⟩
  · rw [hspec, hres]
    exact trodAll_cons_mk (shut_bool Tryz.underlying4 _) trodAll_mk0
  · rw [hspec]
    exact keep _ _ _ _ hp hlt hA
  · rw [hspec, hv]; simp only [DataW.TrodVars]

theorem struct_agg {t : TypeId} {fs : Array Field} {W : World} {v : Value} {b : Nat} (ht : Tryz.prog.underlying t = some (.struct fs)) (h : Value.okWide Tryz.prog W .any b t v) : ∃ cs, v = .agg cs := by
  unfold Value.okWide at h
  rw [ht] at h
  obtain ⟨cs, hc, _⟩ := h
  exact ⟨cs, hc⟩

/-- THE CONTRACT. -/
theorem hides_contract (H' : Type) (enc : TypeId × Value → H') (W : World) (base : Nat) (args : Array Value) (ds gs : List (DataW H')) (before : List MemPlace)
    (hval : ∀ (j : Nat) t v, Tryz.f5.params[j]? = some t → args[j]? = some v → Value.okWide Tryz.prog W .any base t v)
    (hW : DataW.Whole enc Tryz.prog Tryz.f5.params.toList Rows.evalHidesSpec.vars false W args.toList ds gs before) (hsmall : Rows.uptoBulkAll (ds ++ gs) ≤ 1048576) :
    Calls Tryz.prog 5 args W fun e W' => ∃ v, e = .returned v ∧ Rows.evalHidesSpec.post enc Tryz.prog Tryz.f5 false true false false W args v W' := by
  have hW' := hW
  obtain ⟨p, q, hA0, hV, rfl, _, _⟩ := hW
  have hA : DataW.TrodAll enc Tryz.prog W 0 (fun _ => true) true Tryz.f5.params.toList args.toList ds p := hA0
  rw [Tryz.params5] at hA hval
  obtain ⟨v0, vs0, d0, ds0, p0, q0, hargs, rfl, rfl, t0, r0⟩ := trodAll_cons hA
  obtain ⟨v1, vs1, d1, ds1, p1, q1, rfl, rfl, rfl, t1, r1⟩ := trodAll_cons r0
  obtain ⟨v2, vs2, d2, ds2, p2, q2, rfl, rfl, rfl, t2, r2⟩ := trodAll_cons r1
  obtain ⟨rfl, rfl, rfl⟩ := trodAll_nil r2
  obtain rfl : args = #[v0, v1, v2] := by
    cases args with
    | mk l => exact congrArg Array.mk hargs
  have hgs : gs = [] := by
    cases gs with
    | nil => rfl
    | cons g gs => simp only [Rows.evalHidesSpec, DataW.TrodVars] at hV
  subst hgs
  obtain ⟨c0, rfl⟩ := struct_agg Tryz.underlying32 (hval 0 32 v0 rfl rfl)
  obtain ⟨c2, rfl⟩ := struct_agg Tryz.underlying43 (hval 2 43 v2 rfl rfl)
  obtain ⟨s1, rfl, rfl, _, hs1⟩ := open_string Tryz.underlying9 (hval 1 9 v1 rfl rfl) t1
  simp only [List.append_nil, Rows.uptoBulkAll] at hsmall
  obtain ⟨n0, h0⟩ := t0
  obtain ⟨n2, h2⟩ := t2
  have hb0 : Rows.uptoBulk d0 ≤ 1048576 := by omega
  have hb2 : Rows.uptoBulk d2 ≤ 1048576 := by omega
  obtain ⟨x, hx, okx⟩ := open_in (B := 1048576) (Nat.le_refl _) n0 _ _ h0 hb0
  obtain ⟨v, hv, okv, wfv⟩ := open_val (B := 1048576) (Nat.le_refl _) n2 _ _ h2 hb2
  have hrel : RVs (old W) W [.agg x.cells, .str s1.data.toList, .agg v.cells] (#[Value.agg c0, .string s1, .agg c2]).toList := by
    exact ⟨⟨c0, rfl, hx⟩, rfl, ⟨c2, rfl, hv⟩, trivial⟩
  have hok : Ok5 x s1.data.toList v := ⟨okx.come, fun r hr => (okx.comes r hr).1, okx.env, okx.envs.1, okv, by unfold maxLen at hs1; unfold top; simp only [Array.length_toList]; have : s1.data.size = s1.size := rfl; omega⟩
  refine ((gv5 x s1.data.toList v hok H0).2 (old W) W _ (relH0 W) hrel).mono ?_
  rintro e W' ⟨cv, r, I', s', rfl, hsin, _, hrv, rfl, _⟩
  simp only [RV] at hrv
  subst hrv
  refine ⟨_, rfl, post_law hW' rfl (by kernel_rfl) rfl ?_ (below_of hsin)⟩
  intro t ht
  rw [Tryz.params5] at ht
  simp only [List.mem_cons, List.not_mem_nil, or_false] at ht
  rcases ht with rfl | rfl | rfl
  · exact ⟨by kernel_rfl, of_decide_eq_true (by kernel_rfl)⟩
  · exact ⟨by kernel_rfl, of_decide_eq_true (by kernel_rfl)⟩
  · exact ⟨by kernel_rfl, of_decide_eq_true (by kernel_rfl)⟩

end Go.Proofs.YthjjlmkooofdiaaGreatDoor
