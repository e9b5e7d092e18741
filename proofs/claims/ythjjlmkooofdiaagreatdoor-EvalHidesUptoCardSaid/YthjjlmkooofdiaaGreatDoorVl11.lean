/-
  a part of the proof: the texts VlZj, VlZk, VlZl, VlZm, VlZn, joined: helper laws; none of them is the statement.
-/
import Derived.Test.YthjjlmkooofdiaaGreatDoorVl10

/-
  VlZj: context.Get: the last value of a name; the iterators that it goes through.
-/
namespace Go.Proofs.YthjjlmkooofdiaaGreatDoor
open Go Go.VL

/-- slices.Backward: from the last one on, while it is asked to go on. -/
theorem it120 {l bs : Nat} {rows : List (List V)} (h9 : ∀ x ∈ rows, x.length = 9) (htop : rows.length < top) {J : Nat → H → Prop} {Stop : H → Prop}
    (hJ : ∀ i s, J i s → s.c bs = some [.sl rows [] false none])
    (hY : ∀ i s (hi : i < rows.length), J (i + 1) s → YC Tryz.prog l [.int .i64 i, .agg rows[i]] s fun r s' => (r = .bool true ∧ J i s') ∨ (r = .bool false ∧ Stop s')) (s : H) (hs : J rows.length s) :
    AC Tryz.prog 120 [.fn (.yield l) [] [], .ptr bs 0] s fun _ s' => J 0 s' ∨ Stop s' := ac120 (by simp) (by
  simp only [sc120]
  refine wpS_cut (fun T L s' => T 0 = .fn (.yield l) [] [] ∧ T 1 = .ptr bs 0 ∧ T 3 = .int .i64 ((rows.length : Int) - 1) ∧ s' = s) ?_ ?_
  · have hw : IntKind.i64.wrap ((rows.length : Int) - 1) = (rows.length : Int) - 1 := by
      unfold top at htop
      simp [IntKind.wrap, IntKind.bits, IntKind.signed]
      omega
    simp [hJ _ _ hs, hw]
  rintro T L s0 ⟨h0, h1, h3, rfl⟩
  refine wpS_block (wpS_loop (fun n T L s' => n ≤ rows.length ∧ T 0 = .fn (.yield l) [] [] ∧ T 1 = .ptr bs 0 ∧ T 3 = .int .i64 ((n : Int) - 1) ∧ J n s') ⟨rows.length, Nat.le_refl _, h0, h1, h3, hs⟩ ?_)
  rintro n T L s' ⟨hn, h0, h1, h3, hj⟩
  cases n with
  | zero =>
    simp [h3]
    exact .inl hj
  | succ n =>
    have hlt : n < rows.length := hn
    have hge : (0 : Int) ≤ ((n + 1 : Nat) : Int) - 1 := by omega
    have hnn : ((n + 1 : Nat) : Int) - 1 = (n : Int) := by omega
    rw [hnn] at h3
    have hrow : rows[n]? = some rows[n] := List.getElem?_eq_getElem hlt
    have hl := h9 rows[n] (List.getElem_mem _)
    have ht : List.take 9 rows[n] = rows[n] := by rw [← hl, List.take_length]
    have hw : IntKind.i64.wrap ((n : Int) - 1) = (n : Int) - 1 := by
      unfold top at htop
      simp [IntKind.wrap, IntKind.bits, IntKind.signed]
      omega
    simp [h0, h1, h3, hJ _ _ hj, hrow, hl, ht]
    refine (hY n s' hlt hj).mono ?_
    rintro r s'' (⟨rfl, h⟩ | ⟨rfl, h⟩)
    · simp [hw]
      exact ⟨n, by omega, by omega, rfl, h⟩
    · simp
      exact .inr h)

/-- the last value of a name. -/
def lastV (l : List Fld) (name : List UInt8) : Option Val := l.foldl (fun acc f => if fname f = name then some (fval f) else acc) none
theorem lastV_snoc (l : List Fld) (f : Fld) (name : List UInt8) : lastV (l ++ [f]) name = if fname f = name then some (fval f) else lastV l name := by
  simp [lastV]

theorem gv95 (xs : List (List V)) (s : H) : AC Tryz.prog 95 [.sl xs [] false none] s fun r s' => ∃ bs, s.c bs = none ∧ r = .fn (.func 120) [] [.ptr bs 0] ∧ s' = put1 s bs [.sl xs [] false none] := ac95 (by simp) (by
  simp [sc95]
  intro b h1 h2
  exact ⟨b, h1, rfl, rfl⟩)
theorem gv79 (xs : List (List V)) (t : List UInt8) (s : H) : AC Tryz.prog 79 [.sl xs [] false none, .str t] s fun r s' => ∃ bl bn, s.c bl = none ∧ s.c bn = none ∧ bl ≠ bn ∧ r = .fn (.func 99) [] [.ptr bl 0, .ptr bn 0] ∧ s' = put1 (put1 s bl [.sl xs [] false none]) bn [.str t] := ac79 (by simp) (by
  simp [sc79]
  intro b h1 h2 b' 
  by_cases e : b' = b
  · simp [e]
  · simp [e]
    intro h3 h4
    exact ⟨b, h1, b', h3, fun h => e h.symm, ⟨rfl, rfl⟩, rfl⟩)

theorem le_setY {s s0 : H} {l : Nat} {y : Option Y} (hle : H.le s s0) (h : s.y l = none) : H.le s (s0.setY l y) :=
  ⟨hle.1, hle.2.1, hle.2.2.1, fun b y' hb => by
    simp only [H.setY, upd]
    split
    · rename_i e; rw [e, h] at hb; cases hb
    · exact hle.2.2.2 b y' hb⟩

noncomputable def y99 (st : LoopState) (pend : Option Code) (T0 : Nat → V) (D : Nat) : Y := .loop st pend T0 21 #[8, 9] (rfAs Tryz.f99) (rfBd Tryz.f99) D

theorem fld_cells (f : Fld) : f.cells = .str (fname f) :: (fval f).cells := by cases f; simp [Fld.cells, fname, fval]

theorem setY_y (s : H) (l : Nat) (y : Option Y) : (s.setY l y).y l = y := by simp [H.setY]
theorem setY_o {s : H} {l l' : Nat} {y : Option Y} (h : l' ≠ l) : (s.setY l y).y l' = s.y l' := by simp [H.setY, h]
theorem setY_c (s : H) (l : Nat) (y : Option Y) : (s.setY l y).c = s.c := rfl
theorem setY_setY (s : H) (l : Nat) (y y' : Option Y) : (s.setY l y).setY l y' = s.setY l y' := by
  simp only [H.setY]
  congr 1
  funext i
  simp only [upd]
  split <;> rfl
theorem setY_self {s : H} {l : Nat} {y : Option Y} (h : s.y l = y) : s.setY l y = s := by
  simp only [H.setY]
  have : upd s.y l y = s.y := by
    funext k
    simp only [upd]
    split
    · rename_i e; rw [e, h]
    · rfl
  rw [this]
theorem put1Uy (s : H) (b : Nat) (cs : List V) : (put1 s b cs).y = s.y := rfl
theorem le_trans {a b c : H} (h : H.le a b) (h' : H.le b c) : H.le a c :=
  ⟨fun x y q => h'.1 x y (h.1 x y q), fun x y q => h'.2.1 x y (h.2.1 x y q), fun x q => h'.2.2.1 x (h.2.2.1 x q), fun x y q => h'.2.2.2 x y (h.2.2.2 x y q)⟩

set_option maxHeartbeats 1000000 in
theorem gv99 (env : List Fld) (hlen : env.length < top) (name : List UInt8) (s1 : H) (l1 b4 bl bn : Nat) (yd : Y) (hbl : s1.c bl = some [.sl (env.map Fld.cells) [] false none]) (hbn : s1.c bn = some [.str name]) (hl1 : s1.y l1 ≠ none) (_hb4 : s1.c b4 ≠ none)
    (hY : ∀ v s, lastV env name = some v → H.le s1 s → YC Tryz.prog l1 [.agg v.cells] s fun r s' => r = .bool false ∧ s' = (put1 s b4 v.cells).setY l1 (some yd)) :
    AC Tryz.prog 99 [.fn (.yield l1) [] [], .ptr bl 0, .ptr bn 0] s1 fun _ s' => (lastV env name = none ∧ H.le s1 s') ∨ (∃ v s l2, lastV env name = some v ∧ H.le s1 s ∧ s1.y l2 = none ∧ s' = ((put1 s b4 v.cells).setY l1 (some yd)).setY l2 none) := ac99 (by simp) (by
  simp only [sc99]
  refine wpS_cut (fun T L s' => ∃ bY, s1.c bY = none ∧ T 1 = .ptr bl 0 ∧ T 2 = .ptr bn 0 ∧ T 3 = .ptr bY 0 ∧ s' = put1 s1 bY [.fn (.yield l1) [] []]) ?_ ?_
  · simp
    exact fun b h1 _ => ⟨b, h1, rfl, rfl⟩
  rintro T L s' ⟨bY, hbY, h1, h2, h3, rfl⟩
  have e1 : bl ≠ bY := by rintro rfl; rw [hbl] at hbY; cases hbY
  have hle2 : H.le s1 (put1 s1 bY [.fn (.yield l1) [] []]) := put1Ule hbY
  have hby : (put1 s1 bY [.fn (.yield l1) [] []]).c bY = some [.fn (.yield l1) [] []] := put1Uc _ _ _
  have hbl2 : (put1 s1 bY [.fn (.yield l1) [] []]).c bl = some [.sl (env.map Fld.cells) [] false none] := by rw [put1Uo e1, hbl]
  generalize put1 s1 bY [.fn (.yield l1) [] []] = s2 at hle2 hby hbl2
  refine wpS_cut (fun T L s' => ∃ bs, s2.c bs = none ∧ T 1 = .ptr bl 0 ∧ T 2 = .ptr bn 0 ∧ T 3 = .ptr bY 0 ∧ T 7 = .fn (.func 120) [] [.ptr bs 0] ∧ s' = put1 s2 bs [.sl (env.map Fld.cells) [] false none]) ?_ ?_
  · simp [h1, h2, h3, hbl2]
    refine (gv95 _ s2).mono ?_
    rintro r s' ⟨bs, q1, rfl, rfl⟩
    simp []
    exact ⟨bs, q1, rfl, rfl⟩
  rintro T L s' ⟨bs, hbs, h1, h2, h3, h7, rfl⟩
  have e2 : bY ≠ bs := by rintro rfl; rw [hby] at hbs; cases hbs
  have hbs1 : s1.c bs = none := by
    cases hc : s1.c bs with
    | none => rfl
    | some x => rw [hle2.1 _ _ hc] at hbs; cases hbs
  have hle3 : H.le s1 (put1 s2 bs [.sl (env.map Fld.cells) [] false none]) := put1Ule' hle2 hbs1
  have hby3 : (put1 s2 bs [.sl (env.map Fld.cells) [] false none]).c bY = some [.fn (.yield l1) [] []] := by rw [put1Uo e2, hby]
  have hbs3 : (put1 s2 bs [.sl (env.map Fld.cells) [] false none]).c bs = some [.sl (env.map Fld.cells) [] false none] := put1Uc _ _ _
  generalize put1 s2 bs [.sl (env.map Fld.cells) [] false none] = s3 at hle3 hby3 hbs3
  refine wpS_block ?_
  simp only [wpS, X.ev, h7]
  intro l2 D f1 f2 f3
  have hl2 : s1.y l2 = none := by
    cases hc : s1.y l2 with
    | none => rfl
    | some x => rw [hle3.2.2.2 _ _ hc] at f3; cases f3
  have hl12 : l1 ≠ l2 := by rintro rfl; exact hl1 hl2
  have c2 : clean T 2 = .ptr bn 0 := by simp [clean, h2]
  have c3 : clean T 3 = .ptr bY 0 := by simp [clean, h3]
  generalize clean T = T0 at c2 c3
  have hit := it120 (l := l2) (bs := bs) (rows := env.map Fld.cells) (fun x hx => by obtain ⟨f, _, rfl⟩ := List.mem_map.1 hx; exact Fld.len f) (by simpa using hlen)
    (J := fun i s => H.le s1 s ∧ s.c bY = some [.fn (.yield l1) [] []] ∧ s.c bs = some [.sl (env.map Fld.cells) [] false none] ∧ s.y l2 = some (y99 .ready none T0 D) ∧ lastV (env.take i) name = lastV env name)
    (Stop := fun s => ∃ v s', lastV env name = some v ∧ H.le s1 s' ∧ s = ((put1 s' b4 v.cells).setY l1 (some yd)).setY l2 (some (y99 .done (some .ret) T0 D)))
    (fun i s h => h.2.2.1) ?_ (s3.setY l2 (some (y99 .ready none T0 D))) ⟨le_setY hle3 hl2, hby3, hbs3, setY_y _ _ _, by simp⟩
  · refine AC.mono hit ?_
    rintro _ s' (⟨q1, q2, q3, q4, q5⟩ | ⟨v, s'', q1, q2, rfl⟩)
    · refine ⟨_, _, q4, by simp, ?_⟩
      simp only [bodyQ, resV]
      refine ⟨[], rfl, .inl ⟨?_, le_setY q1 hl2⟩⟩
      rw [← q5]; simp [lastV]
    · refine ⟨_, _, setY_y _ _ _, by simp, ?_⟩
      simp only [bodyQ, resV]
      exact ⟨[], rfl, .inr ⟨v, s'', l2, q1, q2, hl2, by rw [setY_setY]⟩⟩
  · rintro i s hi ⟨q1, q2, q3, q4, q5⟩
    have hi' : i < env.length := by simpa using hi
    have hget : (env.map Fld.cells)[i] = env[i].cells := by simp
    rw [hget]
    have hfc := env[i].len
    have hsn : env.take (i + 1) = env.take i ++ [env[i]] := by rw [List.take_succ_eq_append_getElem hi']
    rw [hsn, lastV_snoc] at q5
    refine yc_of_round [5, 10, 16] rfl q4 cA99 cB99 rfl (by simp) ?_
    simp [scA99, roundT, hfc]
    refine ⟨fun v hv => Fld.one _ v hv, q4, ?_⟩
    have hvl := (fval env[i]).len
    have hvt : List.take 8 (fval env[i]).cells = (fval env[i]).cells := by rw [← hvl, List.take_length]
    have q1' : H.le s1 (s.setY l2 (some (y99 .busy none T0 D))) := le_setY q1 hl2
    have cbn : (s.setY l2 (some (y99 .busy none T0 D))).c bn = some [.str name] := q1.1 _ _ hbn
    have cby : (s.setY l2 (some (y99 .busy none T0 D))).c bY = some [.fn (.yield l1) [] []] := q2
    have cbs : (s.setY l2 (some (y99 .busy none T0 D))).c bs = some [.sl (env.map Fld.cells) [] false none] := q3
    have hbusy : (s.setY l2 (some (y99 .busy none T0 D))).y l2 = some (y99 .busy none T0 D) := setY_y _ _ _
    have hback : (s.setY l2 (some (y99 .busy none T0 D))).setY l2 (some (y99 .ready none T0 D)) = s := by
      rw [setY_setY]; exact setY_self q4
    show wpS Tryz.prog scB99 _ _ _ (s.setY l2 (some (y99 .busy none T0 D)))
    generalize hsb : s.setY l2 (some (y99 .busy none T0 D)) = sb at q1' cbn cby cbs hbusy hback ⊢
    by_cases hk : fname env[i] = name
    · rw [if_pos hk] at q5
      simp [scB99, fld_cells, hvl, hvt, c2, c3, cbn, cby, hk]
      refine (hY _ sb q5.symm q1').mono ?_
      rintro r s' ⟨rfl, rfl⟩
      simp [roundQ]
      refine ⟨?_, _, q5.symm, sb, q1', rfl⟩
      rw [setY_o (fun e => hl12 e.symm), put1Uy]; exact hbusy
    · rw [if_neg hk] at q5
      simp [scB99, fld_cells, hvl, c2, cbn, hk]
      simp [roundQ]
      refine ⟨hbusy, ?_⟩
      rw [show sb.setY l2 (some (Y.loop LoopState.ready none T0 21 #[8, 9] (rfAs Tryz.f99) (rfBd Tryz.f99) D)) = s from hback]
      exact ⟨q1, q2, q3, q4, q5⟩)

noncomputable def y64 (st : LoopState) (pend : Option Code) (T0 : Nat → V) (D : Nat) : Y := .loop st pend T0 13 #[9] (rfAs Tryz.f64) (rfBd Tryz.f64) D

def getV (env : List Fld) (name : List UInt8) : Val := (lastV env name).getD .nil

/-- what an empty list is told as does not matter. -/
theorem zVal_nil : Le (.agg zVal) (.agg Val.nil.cells) := by
  refine Le.agg ?_
  simp only [zVal, Val.nil, Val.cells, Val.rows, Fld.rows]
  exact Les.cons (Le.refl _) (Les.cons (Le.refl _) (Les.cons (Le.refl _) (Les.cons (Le.sl _ _ _ _) (Les.cons (Le.sl _ _ _ _) (Les.refl _)))))

theorem lastV_fit {env : List Fld} (h : FitFs env) {name : List UInt8} {v : Val} (hv : lastV env name = some v) : Fit v := by
  have all : ∀ f ∈ env, Fit (fval f) := by
    clear hv
    induction env with
    | nil => intro f hf; cases hf
    | cons a l ih =>
      simp only [FitFs] at h
      intro f hf
      rcases List.mem_cons.1 hf with e | hf
      · rw [e]; cases a; simpa only [FitF, fval] using h.1
      · exact ih h.2 f hf
  have key : ∀ (l : List Fld) (acc : Option Val), (∀ x, acc = some x → Fit x) → (∀ f ∈ l, Fit (fval f)) → ∀ x, l.foldl (fun acc f => if fname f = name then some (fval f) else acc) acc = some x → Fit x := by
    intro l
    induction l with
    | nil => intro acc ha _ x hx; exact ha x hx
    | cons a l ih =>
      intro acc ha hl x hx
      rw [List.foldl_cons] at hx
      refine ih _ ?_ (fun f hf => hl f (by simp [hf])) x hx
      intro y hy
      split at hy
      · cases hy; exact hl a (by simp)
      · exact ha y hy
  exact key env none (fun _ h => by cases h) all v hv

theorem zVal_len : zVal.length = 8 := rfl

set_option maxHeartbeats 1000000 in
theorem gv64 (env : List Fld) (hlen : env.length < top) (hfit : FitFs env) (name : List UInt8) : Gv Tryz.prog 64 [.sl (Fld.rows env) [] false none, .str name] (.agg (getV env name).cells) := by
  intro s
  rw [Fld.rows_eq]
  refine AC.weak (Q := fun r s' => (r = .agg (getV env name).cells ∨ r = .agg zVal ∧ lastV env name = none) ∧ H.le s s') ?_ fun r s' ⟨h1, h2⟩ => ?_
  rotate_left
  · rcases h1 with h1 | ⟨h1, h3⟩
    · exact ⟨_, s, Le.refl _, h2, h1, rfl⟩
    · exact ⟨_, s, by rw [h1]; exact zVal_nil, h2, by simp [getV, h3], rfl⟩
  refine ac64 (by simp) ?_
  simp only [sc64]
  refine wpS_cut (fun T L s' => ∃ b4, s.c b4 = none ∧ T 0 = .sl (env.map Fld.cells) [] false none ∧ T 1 = .str name ∧ T 4 = .ptr b4 0 ∧ s' = put1 s b4 zVal) ?_ ?_
  · simp [zVal]
    exact fun b h1 _ => ⟨b, h1, rfl, rfl⟩
  rintro T L s' ⟨b4, hb4, h0, h1, h4, rfl⟩
  have hle1 : H.le s (put1 s b4 zVal) := put1Ule hb4
  have hc1 : (put1 s b4 zVal).c b4 = some zVal := put1Uc _ _ _
  generalize put1 s b4 zVal = s1 at hle1 hc1
  refine wpS_cut (fun T L s' => T 4 = .ptr b4 0 ∧ s'.c b4 = some zVal ∧ H.le s s' ∧ lastV env name = none) ?_ ?_
  rotate_left
  · rintro T L s' ⟨h4, hc, hle, hnone⟩
    simp [h4, hc, zVal]
    exact ⟨.inr hnone, put1Ule' hle hb4⟩
  refine wpS_cut (fun T L s' => ∃ bl bn, s1.c bl = none ∧ s1.c bn = none ∧ bl ≠ bn ∧ T 4 = .ptr b4 0 ∧ T 8 = .fn (.func 99) [] [.ptr bl 0, .ptr bn 0] ∧ s' = put1 (put1 s1 bl [.sl (env.map Fld.cells) [] false none]) bn [.str name]) ?_ ?_
  · simp [h0, h1, h4]
    refine (gv79 _ _ s1).mono ?_
    rintro r s' ⟨bl, bn, q1, q2, q3, rfl, rfl⟩
    simp []
    exact ⟨bl, q1, bn, q2, q3, ⟨rfl, rfl⟩, rfl⟩
  rintro T L s' ⟨bl, bn, q1, q2, q3, h4, h8, rfl⟩
  have hle2 : H.le s1 (put1 (put1 s1 bl [.sl (env.map Fld.cells) [] false none]) bn [.str name]) := put1Ule' (put1Ule q1) q2
  have hcl : (put1 (put1 s1 bl [.sl (env.map Fld.cells) [] false none]) bn [.str name]).c bl = some [.sl (env.map Fld.cells) [] false none] := by rw [put1Uo q3, put1Uc]
  have hcn : (put1 (put1 s1 bl [.sl (env.map Fld.cells) [] false none]) bn [.str name]).c bn = some [.str name] := put1Uc _ _ _
  generalize put1 (put1 s1 bl [.sl (env.map Fld.cells) [] false none]) bn [.str name] = s2 at hle2 hcl hcn
  have hc2 : s2.c b4 = some zVal := hle2.1 _ _ hc1
  have hle : H.le s s2 := le_trans hle1 hle2
  refine wpS_block ?_
  simp only [wpS, X.ev, h8]
  intro l1 D f1 f2 f3
  have hl1 : s.y l1 = none := by
    cases hc : s.y l1 with
    | none => rfl
    | some x => rw [hle.2.2.2 _ _ hc] at f3; cases f3
  have c4 : clean T 4 = .ptr b4 0 := by simp [clean, h4]
  generalize clean T = T0 at c4
  have hs3 : H.le s (s2.setY l1 (some (y64 .ready none T0 D))) := le_setY hle hl1
  refine (gv99 env hlen name (s2.setY l1 (some (y64 .ready none T0 D))) l1 b4 bl bn (y64 .done (some .ret) T0 D) hcl hcn (by rw [setY_y]; simp) (by rw [setY_c, hc2]; simp) ?_).mono ?_
  · intro v s' hv hle'
    refine yc_of_round [5] rfl (hle'.2.2.2 _ _ (setY_y _ _ _)) cA64 cB64 rfl (by simp) ?_
    have hvl := v.len
    have hvt : List.take 8 v.cells = v.cells := by rw [← hvl, List.take_length]
    have hb : s'.c b4 = some zVal := hle'.1 _ _ (by rw [setY_c]; exact hc2)
    have hyr : s'.y l1 = some (y64 .ready none T0 D) := hle'.2.2.2 _ _ (setY_y _ _ _)
    simp [scA64, roundT, hvl]
    refine ⟨Val.one v, hyr, ?_⟩
    show wpS Tryz.prog scB64 _ _ _ (s'.setY l1 (some (y64 .busy none T0 D)))
    have hbb : (s'.setY l1 (some (y64 .busy none T0 D))).c b4 = some zVal := hb
    simp [scB64, hvl, hvt, c4]
    refine (own_val v (lastV_fit hfit hv) _).mono ?_
    rintro r s'' ⟨rfl, rfl⟩
    simp [hbb, hvl, zVal, roundQ]
    refine ⟨Val.one v, setY_y _ _ _, ?_⟩
    have hd : List.drop 8 zVal = [] := rfl
    simp only [put1, H.setY]
    congr 1
    funext k
    simp only [upd]
    split <;> rfl
  · rintro _ s' (⟨r1, r2⟩ | ⟨v, s'', l2, r1, r2, r3, rfl⟩)
    · refine ⟨_, _, r2.2.2.2 _ _ (setY_y _ _ _), by simp, ?_⟩
      exact ⟨h4, r2.1 _ _ (by rw [setY_c]; exact hc2), le_setY (le_trans hs3 r2) hl1, r1⟩
    · have hne : l1 ≠ l2 := by rintro rfl; rw [setY_y] at r3; cases r3
      have hl2 : s.y l2 = none := by
        cases hc : s.y l2 with
        | none => rfl
        | some x => rw [hs3.2.2.2 _ _ hc] at r3; cases r3
      refine ⟨_, _, by rw [setY_o hne, setY_y]; rfl, by simp, ?_⟩
      simp only [bodyQ, resV, cellsAt, h4, setY_c, put1Uc]
      have hvl := v.len
      have hvt : List.take 8 v.cells = v.cells := by rw [← hvl, List.take_length]
      simp [hvl, hvt]
      refine ⟨.inl (by simp [getV, r1]), le_setY (le_setY (le_setY (put1Ule' (le_trans hs3 r2) hb4) hl1) hl2) hl1⟩

end Go.Proofs.YthjjlmkooofdiaaGreatDoor

/-
  VlZk: an expression that is a name.
-/
namespace Go.Proofs.YthjjlmkooofdiaaGreatDoor
open Go Go.VL

def exText : Ex → List UInt8
  | .mk _ _ s _ _ _ _ _ _ _ => s
def exKind : Ex → Int
  | .mk k _ _ _ _ _ _ _ _ _ => k

/-- a value, or a failure. -/
def Came (b : Nat) (mc : List V) (s : H) (v : Val) (r : V) (s' : H) : Prop := if checkB v = true then r = .tup [.agg v.cells, .bool true] ∧ s' = s else r = .tup [.agg zVal, .bool false] ∧ s' = put1 s b (thrown mc (textCells great))

def scopeCells (env : List Fld) (deep : Int) : List V := [.sl (Fld.rows env) [] false none, .int .i64 deep]

theorem gv43 (b : Nat) (mc : List V) (env : List Fld) (hlen : env.length < top) (hfit : FitFs env) (deep : Int) (e : Ex) (s : H) (hs : s.c b = some mc) (hm : mc.length = 15) :
    AC Tryz.prog 43 [.ptr b 0, .agg (scopeCells env deep), .agg e.cells] s (Came b mc s (getV env (exText e))) := ac43 (by simp) (by
  cases e with
  | mk k n t args names vals el key acts site =>
  simp only [sc43, exText]
  refine wpS_cut (fun T L s' => T 0 = .ptr b 0 ∧ T 4 = .lp 4 1 0 ∧ L 4 = (1, scopeCells env deep) ∧ T 5 = .lp 5 1 0 ∧ L 5 = (1, (Ex.mk k n t args names vals el key acts site).cells) ∧ T 6 = .lp 6 1 0 ∧ L 6 = (1, zVal) ∧ s' = s) (by simp [zVal, scopeCells, Ex.cells]) ?_
  rintro T L s0 ⟨h0, h4, hL4, h5, hL5, h6, hL6, rfl⟩
  simp [h0, h4, hL4, h5, hL5, h6, hL6, scopeCells, Ex.cells]
  refine (gv64 env hlen hfit t s0).mono ?_
  rintro r s' ⟨rfl, rfl⟩
  simp []
  refine (gv63 b mc (getV env t) s' hs hm).mono ?_
  intro r s'' h
  have hl := (getV env t).len
  have ht : List.take 8 (getV env t).cells = (getV env t).cells := by rw [← hl, List.take_length]
  simp only [Came]
  cases hc : checkB (getV env t)
  · rw [hc] at h
    obtain ⟨rfl, rfl⟩ := h
    simp [zVal]
  · rw [hc] at h
    obtain ⟨rfl, rfl⟩ := h
    simp [zVal, hl, ht]
    exact Val.one _)

/-- a machine. -/
def mcs (come : V) (fuel inst steps : Int) (up : List V) : List V := come :: .int .i64 fuel :: .int .i64 inst :: .int .i64 steps :: up

theorem row_at (x y z : V) : (rowCells x y z)[8]? = some (fnV 41) ∧ (rowCells x y z)[9]? = some (fnV 43) ∧ (rowCells x y z).length = 26 := ⟨rfl, rfl, rfl⟩

set_option maxHeartbeats 1000000 in
theorem gv19Uname (b : Nat) (come : V) (fuel inst steps : Int) (up : List V) (hup : up.length = 11) (env : List Fld) (hlen : env.length < top) (hfit : FitFs env) (deep : Int) (e : Ex) (hk : exKind e = 4) (hn : isName (exText e) = true) (s : H)
    (hs : s.c b = some (mcs come fuel inst steps up)) (hf : steps < fuel) (hd : deep ≤ 64) :
    AC Tryz.prog 19 [.ptr b 0, .agg (scopeCells env deep), .agg e.cells] s
      (Came b (mcs come fuel inst (IntKind.i64.wrap (steps + 1)) up) (put1 s b (mcs come fuel inst (IntKind.i64.wrap (steps + 1)) up)) (getV env (exText e))) := ac19 (by simp) (by
  cases e with
  | mk k n t args names vals el key acts site =>
  simp only [exKind] at hk
  subst hk
  simp only [exText] at hn ⊢
  have hf' : ¬ fuel ≤ steps := by omega
  have hd' : ¬ 64 < deep := by omega
  simp only [sc19]
  refine wpS_cut (fun T L s' => T 0 = .ptr b 0 ∧ T 4 = .lp 4 1 0 ∧ L 4 = (1, scopeCells env deep) ∧ T 5 = .lp 5 1 0 ∧ L 5 = (1, (Ex.mk 4 n t args names vals el key acts site).cells) ∧ T 6 = .lp 6 1 0 ∧ L 6 = (1, zVal) ∧ s' = s) (by simp [zVal, scopeCells, Ex.cells]) ?_
  rintro T L s0 ⟨h0, h4, hL4, h5, hL5, h6, hL6, rfl⟩
  refine wpS_cut (fun T L s' => T 0 = .ptr b 0 ∧ T 4 = .lp 4 1 0 ∧ L 4 = (1, scopeCells env deep) ∧ T 5 = .lp 5 1 0 ∧ L 5 = (1, (Ex.mk 4 n t args names vals el key acts site).cells) ∧ T 6 = .lp 6 1 0 ∧ L 6 = (1, zVal) ∧ s' = s0) ?_ ?_
  · simp [h0, h4, hL4, h5, hL5, h6, hL6, hs, mcs, hf']
  rintro T L s1 ⟨h0, h4, hL4, h5, hL5, h6, hL6, rfl⟩
  refine wpS_cut (fun T L s' => T 0 = .ptr b 0 ∧ T 4 = .lp 4 1 0 ∧ L 4 = (1, scopeCells env deep) ∧ T 5 = .lp 5 1 0 ∧ L 5 = (1, (Ex.mk 4 n t args names vals el key acts site).cells) ∧ T 6 = .lp 6 1 0 ∧ L 6 = (1, zVal) ∧ s' = put1 s1 b (mcs come fuel inst (IntKind.i64.wrap (steps + 1)) up)) ?_ ?_
  · simp [h0, h4, hL4, h5, hL5, h6, hL6, hs, mcs, put1]
  rintro T L s2 ⟨h0, h4, hL4, h5, hL5, h6, hL6, rfl⟩
  have hs2 : (put1 s1 b (mcs come fuel inst (IntKind.i64.wrap (steps + 1)) up)).c b = some (mcs come fuel inst (IntKind.i64.wrap (steps + 1)) up) := put1Uc _ _ _
  generalize put1 s1 b (mcs come fuel inst (IntKind.i64.wrap (steps + 1)) up) = s2 at hs2 ⊢
  refine wpS_cut (fun T L s' => T 0 = .ptr b 0 ∧ T 4 = .lp 4 1 0 ∧ L 4 = (1, scopeCells env deep) ∧ T 5 = .lp 5 1 0 ∧ L 5 = (1, (Ex.mk 4 n t args names vals el key acts site).cells) ∧ T 6 = .lp 6 1 0 ∧ L 6 = (1, zVal) ∧ s' = s2) ?_ ?_
  · simp [h0, h4, hL4, h5, hL5, h6, hL6, scopeCells, hd']
  rintro T L s3 ⟨h0, h4, hL4, h5, hL5, h6, hL6, rfl⟩
  refine wpS_cut (fun T L s' => T 0 = .ptr b 0 ∧ T 4 = .lp 4 1 0 ∧ L 4 = (1, scopeCells env deep) ∧ T 5 = .lp 5 1 0 ∧ L 5 = (1, (Ex.mk 4 n t args names vals el key acts site).cells) ∧ T 6 = .lp 6 1 0 ∧ L 6 = (1, zVal) ∧ s' = s3 ∧
    ∃ u x y z : Nat, T 8 = .lp 8 u 0 ∧ L 8 = (u, rowCells (.fn (.func 67) [] [.ptr x 0]) (.fn (.func 67) [] [.ptr y 0]) (.fn (.func 67) [] [.ptr z 0]))) ?_ ?_
  · simp [h0, h4, hL4, h5, hL5, h6, hL6]
    refine (gv27 s3).mono ?_
    rintro r s' ⟨⟨x, y, z, rfl⟩, rfl⟩
    simp [rowCells, fnV]
  rintro T L s4 ⟨h0, h4, hL4, h5, hL5, h6, hL6, rfl, u, x, y, z, h8, hL8⟩
  obtain ⟨r8, r9, rl⟩ := row_at (.fn (.func 67) [] [.ptr x 0]) (.fn (.func 67) [] [.ptr y 0]) (.fn (.func 67) [] [.ptr z 0])
  generalize rowCells (.fn (.func 67) [] [.ptr x 0]) (.fn (.func 67) [] [.ptr y 0]) (.fn (.func 67) [] [.ptr z 0]) = rc at hL8 r8 r9 rl
  refine wpS_cut (fun T L s' => T 0 = .ptr b 0 ∧ T 4 = .lp 4 1 0 ∧ L 4 = (1, scopeCells env deep) ∧ T 5 = .lp 5 1 0 ∧ L 5 = (1, (Ex.mk 4 n t args names vals el key acts site).cells) ∧ T 6 = .lp 6 1 0 ∧ L 6 = (1, zVal) ∧ s' = s4 ∧ T 8 = .lp 8 u 0 ∧ L 8 = (u, rc)) ?_ ?_
  · have hw : IntKind.i64.wrap 4 = 4 := by decide
    simp [h0, h4, hL4, h5, hL5, h6, hL6, h8, hL8, Ex.cells, hw, r8, fnV]
    refine (gv41 4 n t _ _ _ _ _ el site s4).mono ?_
    rintro r s' ⟨rfl, rfl⟩
    simp [hn]
  rintro T L s5 ⟨h0, h4, hL4, h5, hL5, h6, hL6, rfl, h8, hL8⟩
  refine wpS_cut (fun T L s' => T 0 = .ptr b 0 ∧ T 4 = .lp 4 1 0 ∧ L 4 = (1, scopeCells env (IntKind.i64.wrap (deep + 1))) ∧ T 5 = .lp 5 1 0 ∧ L 5 = (1, (Ex.mk 4 n t args names vals el key acts site).cells) ∧ T 6 = .lp 6 1 0 ∧ L 6 = (1, zVal) ∧ s' = s5 ∧ T 8 = .lp 8 u 0 ∧ L 8 = (u, rc)) ?_ ?_
  · simp [h0, h4, hL4, h5, hL5, h6, hL6, h8, hL8, scopeCells]
  rintro T L s6 ⟨h0, h4, hL4, h5, hL5, h6, hL6, rfl, h8, hL8⟩
  have h43 := gv43 b (mcs come fuel inst (IntKind.i64.wrap (steps + 1)) up) env hlen hfit (IntKind.i64.wrap (deep + 1)) (Ex.mk 4 n t args names vals el key acts site) s6 hs2 (by simp [mcs, hup])
  simp [h0, h4, hL4, h5, hL5, h6, hL6, h8, hL8, Ex.cells, r9, fnV, scopeCells]
  refine AC.mono h43 ?_
  intro r s' h
  simp only [exText, Came] at h
  have hl := (getV env t).len
  have ht : List.take 8 (getV env t).cells = (getV env t).cells := by rw [← hl, List.take_length]
  simp only [Came]
  cases hc : checkB (getV env t)
  · simp only [hc, Bool.false_eq_true, if_false] at h
    obtain ⟨rfl, rfl⟩ := h
    simp [zVal]
  · simp only [hc, if_true] at h
    obtain ⟨rfl, rfl⟩ := h
    simp [zVal, hl, ht]
    exact Val.one _)

end Go.Proofs.YthjjlmkooofdiaaGreatDoor

/-
  VlZl: eval.Eval, out of what its machine comes to.
-/
namespace Go.Proofs.YthjjlmkooofdiaaGreatDoor
open Go Go.VL

def upz : List V := [.int .u8 0, .int .u8 0, .int .i64 0, .str [], .sl [] [] true none, .sl [] [] true none, .int .u8 0, .str [], .bool false, .str [], .int .i64 0]

/-- what comes back. -/
def outCells (ok : Bool) (v8 up : List V) (steps : Int) : List V := if ok then .int .u8 0 :: (v8 ++ [.str [], .int .i64 steps]) else up.take 10 ++ [.int .i64 steps]

set_option maxHeartbeats 1000000 in
theorem gv9 (rows : List (List V)) (fuel inst : Int) (xs : List (List V)) (ec : List V) (hec : ec.length = 10) (ok : Bool) (v8 up : List V) (steps : Int) (hv8 : v8.length = 8) (hone : ∀ x ∈ v8, one x = true) (hup : up.length = 11) (huone : ∀ x ∈ up, one x = true)
    (h : ∀ b s, s.c b = some (mcs (.sl rows [] false none) fuel inst 0 upz) → AC Tryz.prog 19 [.ptr b 0, .agg [.sl xs [] false none, .int .i64 0], .agg ec] s fun r s' => r = .tup [.agg v8, .bool ok] ∧ s' = put1 s b (mcs (.sl rows [] false none) fuel inst steps up)) :
    Gv Tryz.prog 9 [.agg [.sl rows [] false none, .int .i64 fuel, .int .i64 inst], .sl xs [] false none, .agg ec] (.agg (outCells ok v8 up steps)) := by
  intro s
  refine AC.weak (Q := fun r s' => r = .agg (outCells ok v8 up steps) ∧ H.le s s') ?_ fun r s' ⟨h1, h2⟩ => ⟨r, s, Le.refl _, h2, h1, rfl⟩
  have ht10 : List.take 10 ec = ec := by rw [← hec, List.take_length]
  have ht8 : List.take 8 v8 = v8 := by rw [← hv8, List.take_length]
  refine ac9 (by simp) ?_
  refine wpS_cut (fun T L s' => ∃ b6, s.c b6 = none ∧ T 1 = .sl xs [] false none ∧ T 3 = .lp 3 1 0 ∧ L 3 = (1, [.sl rows [] false none, .int .i64 fuel, .int .i64 inst]) ∧ T 5 = .lp 5 1 0 ∧ L 5 = (1, ec) ∧ T 6 = .ptr b6 0 ∧ s' = put1 s b6 upz) ?_ ?_
  · simp [scX9, hec, upz]
    exact fun b h1 _ => ⟨b, h1, rfl, rfl⟩
  rintro T L s' ⟨b6, hb6, h1, h3, hL3, h5, hL5, h6, rfl⟩
  have hle1 : H.le s (put1 s b6 upz) := put1Ule hb6
  have hc6 : (put1 s b6 upz).c b6 = some upz := put1Uc _ _ _
  generalize put1 s b6 upz = s1 at hle1 hc6
  simp only [scY9]
  refine wpS_reg (wpRs_mono (K := fun T L s' => ∃ bm b7, s1.c bm = none ∧ s1.c b7 = none ∧ b7 ≠ bm ∧ T 1 = .sl xs [] false none ∧ T 5 = .lp 5 1 0 ∧ L 5 = (1, ec) ∧ T 6 = .ptr b6 0 ∧ T 7 = .ptr b7 0 ∧ s' = put1 (put1 s1 bm (mcs (.sl rows [] false none) fuel inst 0 upz)) b7 [.ptr bm 0]) _ ?_ ?_)
  rotate_left
  · refine wpRs_cut 3 (fun T L s' => ∃ bm, s1.c bm = none ∧ T 1 = .sl xs [] false none ∧ T 5 = .lp 5 1 0 ∧ L 5 = (1, ec) ∧ T 6 = .ptr b6 0 ∧ T 12 = .ptr bm 0 ∧ s' = put1 s1 bm (mcs (.sl rows [] false none) fuel inst 0 upz)) ?_ ?_
    · simp [h1, h3, hL3, h5, hL5, h6]
      exact fun b q1 _ => ⟨b, q1, rfl, rfl⟩
    rintro T L s' ⟨bm, q1, h1, h5, hL5, h6, h12, rfl⟩
    simp [h1, h5, hL5, h6, h12]
    intro b7 q2 _
    have hne : b7 ≠ bm := by rintro rfl; rw [put1Uc] at q2; cases q2
    rw [put1Uo hne] at q2
    exact ⟨bm, q1, b7, q2, hne, rfl, by rw [← put1Uput1 _ b7 [.nilp]]; rfl⟩
  rintro T L s' ⟨bm, b7, q1, q2, hne, h1, h5, hL5, h6, h7, rfl⟩
  have e6 : b6 ≠ bm := by rintro rfl; rw [hc6] at q1; cases q1
  have e7 : b6 ≠ b7 := by rintro rfl; rw [hc6] at q2; cases q2
  have hle2 : H.le s1 (put1 (put1 s1 bm (mcs (.sl rows [] false none) fuel inst 0 upz)) b7 [.ptr bm 0]) := put1Ule' (put1Ule q1) q2
  have hc7 : (put1 (put1 s1 bm (mcs (.sl rows [] false none) fuel inst 0 upz)) b7 [.ptr bm 0]).c b7 = some [.ptr bm 0] := put1Uc _ _ _
  have hcm : (put1 (put1 s1 bm (mcs (.sl rows [] false none) fuel inst 0 upz)) b7 [.ptr bm 0]).c bm = some (mcs (.sl rows [] false none) fuel inst 0 upz) := by rw [put1Uo hne.symm, put1Uc]
  have hbm : s.c bm = none := by
    cases hc : s.c bm with
    | none => rfl
    | some x => rw [hle1.1 _ _ hc] at q1; cases q1
  have hle3 := le_trans hle1 hle2
  have hc62 := hle2.1 _ _ hc6
  generalize put1 (put1 s1 bm (mcs (.sl rows [] false none) fuel inst 0 upz)) b7 [.ptr bm 0] = s2 at hle3 hc7 hcm hc62
  simp only [rD9]
  simp [h6, h7, isPtr]
  -- behind the evaluation: the results' box
  have fin : ∀ (T : Nat → V) (L : Nat → Nat × List V) (out : List V), out.length = 11 → out.take 10 ++ [.int .i64 steps] = outCells ok v8 up steps → T 6 = .ptr b6 0 →
      wpS Tryz.prog scG9 (bodyQ [] fun _ s' => ∃ vs, resV T L s' [.c 6 11 true] = some vs ∧ tupV vs = .agg (outCells ok v8 up steps) ∧ H.le s s') (initT [.ptr b7 0, .ptr b6 0]) (fun _ => (0, [])) (put1 (put1 s2 bm (mcs (.sl rows [] false none) fuel inst steps up)) b6 out) := by
    intro T L out ho hout h6
    have g7 : (put1 (put1 s2 bm (mcs (.sl rows [] false none) fuel inst steps up)) b6 out).c b7 = some [.ptr bm 0] := by rw [put1Uo e7.symm, put1Uo hne, hc7]
    have gm : (put1 (put1 s2 bm (mcs (.sl rows [] false none) fuel inst steps up)) b6 out).c bm = some (mcs (.sl rows [] false none) fuel inst steps up) := by rw [put1Uo e6.symm, put1Uc]
    have g6 : (put1 (put1 s2 bm (mcs (.sl rows [] false none) fuel inst steps up)) b6 out).c b6 = some out := put1Uc _ _ _
    have hle4 : H.le s (put1 (put1 s2 bm (mcs (.sl rows [] false none) fuel inst steps up)) b6 out) := put1Ule' (put1Ule' hle3 hbm) hb6
    generalize put1 (put1 s2 bm (mcs (.sl rows [] false none) fuel inst steps up)) b6 out = s3 at g7 gm g6 hle4
    have hd : List.drop 11 out = [] := by rw [← ho, List.drop_length]
    have ho' : (out.take 10 ++ [V.int .i64 steps]).length = 11 := by simp [ho]
    simp [scG9, g7, gm, g6, mcs, ho, hd, h6]
    exact ⟨by rw [List.take_of_length_le (by omega), hout], put1Ule' hle4 hb6⟩
  simp only [scZ9]
  refine wpS_cut (fun T L s' => T 6 = .ptr b6 0 ∧ T 7 = .ptr b7 0 ∧ T 8 = .lp 8 ((L 8).1) 0 ∧ (L 8).2 = v8 ∧ T 9 = .bool ok ∧ s' = put1 s2 bm (mcs (.sl rows [] false none) fuel inst steps up)) ?_ ?_
  · have h0 : ¬ False := id
    simp [h1, h5, hL5, h6, h7, hc7, hec, ht10]
    refine (h bm s2 hcm).mono ?_
    rintro r s' ⟨rfl, rfl⟩
    simp [hv8]
    exact hone
  rintro T L s' ⟨h6, h7, h8, hL8, h9, rfl⟩
  have g7 : (put1 s2 bm (mcs (.sl rows [] false none) fuel inst steps up)).c b7 = some [.ptr bm 0] := by rw [put1Uo hne, hc7]
  have gm : (put1 s2 bm (mcs (.sl rows [] false none) fuel inst steps up)).c bm = some (mcs (.sl rows [] false none) fuel inst steps up) := put1Uc _ _ _
  have g6 : (put1 s2 bm (mcs (.sl rows [] false none) fuel inst steps up)).c b6 = some upz := by rw [put1Uo e6, hc62]
  cases ok
  · have hf := fin T L up hup (by simp [outCells]) h6
    have hl15 : (mcs (V.sl rows [] false none) fuel inst steps up).length = 15 := by simp [mcs, hup]
    have hdr : List.take 11 (List.drop 4 (mcs (V.sl rows [] false none) fuel inst steps up)) = up := by
      simp only [mcs, List.drop_succ_cons, List.drop_zero]
      rw [← hup, List.take_length]
    have hdu : List.drop 11 upz = [] := rfl
    have hlu : upz.length = 11 := rfl
    simp [h6, h7, h9, g7, gm, g6, hl15, hdr, hup, hdu, hlu]
    simp [h6] at hf
    exact ⟨huone, hf⟩
  · have hdu : List.drop 11 upz = [] := rfl
    have hlu : upz.length = 11 := rfl
    have hL8' : L 8 = ((L 8).1, v8) := by rw [← hL8]
    simp [h6, h8, h9, hL8, g6, hv8, ht8, hlu, hdu]
    have hf := fin T L (.int .u8 0 :: (v8 ++ [.str [], .int .i64 0])) (by simp [hv8]) (by
      have : List.take 9 (v8 ++ [V.str [], V.int .i64 0]) = v8 ++ [V.str []] := by
        rw [List.take_append, hv8]; rw [List.take_of_length_le (by omega)]; simp
      simp [outCells, this]) h6
    simp [h6] at hf
    refine ⟨?_, hf⟩
    rintro a (q | rfl | rfl)
    · exact hone a q
    · rfl
    · rfl

end Go.Proofs.YthjjlmkooofdiaaGreatDoor

/-
  VlZm: the table of expressions with what it holds on to; an expression's evaluation by its row.
-/
namespace Go.Proofs.YthjjlmkooofdiaaGreatDoor
open Go Go.VL

theorem gv46' (n : Int) (s : H) : AC Tryz.prog 46 [.int .i64 n] s fun r s' => ∃ b, s.c b = none ∧ r = .fn (.func 67) [] [.ptr b 0] ∧ s' = put1 s b [.int .i64 n] := ac46 (by simp) (by
  simp [sc46]
  intro b h1 h2
  exact ⟨b, h1, rfl, rfl⟩)

def f67 (x : Nat) : V := .fn (.func 67) [] [.ptr x 0]

theorem fresh_le {s s' : H} {b : Nat} (hle : H.le s s') (h : s'.c b = none) : s.c b = none := by
  cases hc : s.c b with
  | none => rfl
  | some x => rw [hle.1 _ _ hc] at h; cases h
theorem put1Ule2 {s s' : H} {b : Nat} {cs : List V} (hle : H.le s s') : H.le (put1 s b cs) (put1 s' b cs) :=
  ⟨fun b' x h => by
    simp only [put1, upd] at h ⊢
    split
    · rename_i e; rwa [if_pos e] at h
    · rename_i e; rw [if_neg e] at h; exact hle.1 _ _ h, hle.2.1, hle.2.2⟩

set_option maxHeartbeats 2000000 in
theorem gv27' (s : H) : AC Tryz.prog 27 [] s fun r s' => ∃ x y z : Nat, r = .agg (rowCells (f67 x) (f67 y) (f67 z)) ∧ H.le s s' ∧ s'.c x = some [.int .i64 3] ∧ s'.c y = some [.int .i64 1] ∧ s'.c z = some [.int .i64 1] := ac27 (by simp) (by
  simp only [sc27]
  refine wpS_cut (fun T L s' => T 0 = .lp 0 1 0 ∧ L 0 = (1, List.replicate 26 .nilfn) ∧ s' = s) (by simp) ?_
  rintro T L s0 ⟨h0, hL, rfl⟩
  refine wpS_cut (fun T L s' => ∃ x y z : Nat, T 0 = .lp 0 1 0 ∧ L 0 = (1, rowCells (f67 x) (f67 y) (f67 z)) ∧ H.le s0 s' ∧ s'.c x = some [.int .i64 3] ∧ s'.c y = some [.int .i64 1] ∧ s'.c z = some [.int .i64 1]) ?_ (by
    rintro T L s' ⟨x, y, z, h0, hL, h⟩
    simp [h0, hL, rowCells, fnV, f67]
    exact ⟨x, y, z, ⟨rfl, rfl, rfl⟩, h⟩)
  simp only [wpS]
  refine wpRs_cut 7 (fun T L s' => ∃ x : Nat, T 0 = .lp 0 1 0 ∧ L 0 = (1, List.replicate 26 .nilfn) ∧ T 1 = .agg [fnV 35, fnV 36] ∧ T 2 = .agg [fnV 35, fnV 37] ∧ T 3 = .agg [fnV 35, fnV 38] ∧ T 4 = .agg [fnV 39, fnV 40] ∧ T 5 = .agg [fnV 41, fnV 43] ∧
    T 6 = .agg [fnV 44, fnV 45] ∧ T 7 = f67 x ∧ H.le s0 s' ∧ s'.c x = some [.int .i64 3]) ?_ ?_
  · simp [h0, hL, fnV]
    refine (gv46' 3 s0).mono ?_
    rintro r s' ⟨x, q1, rfl, rfl⟩
    simp [f67]
    exact ⟨put1Ule q1, put1Uc _ _ _⟩
  rintro T L s1 ⟨x, h0, hL, q1, q2, q3, q4, q5, q6, q7, hle, hx⟩
  simp only [List.drop]
  refine wpRs_cut 3 (fun T L s' => ∃ y : Nat, T 0 = .lp 0 1 0 ∧ L 0 = (1, List.replicate 26 .nilfn) ∧ T 1 = .agg [fnV 35, fnV 36] ∧ T 2 = .agg [fnV 35, fnV 37] ∧ T 3 = .agg [fnV 35, fnV 38] ∧ T 4 = .agg [fnV 39, fnV 40] ∧ T 5 = .agg [fnV 41, fnV 43] ∧
    T 6 = .agg [fnV 44, fnV 45] ∧ T 8 = .agg [f67 x, fnV 47] ∧ T 9 = .agg [fnV 48, fnV 49] ∧ T 10 = f67 y ∧ H.le s0 s' ∧ s'.c x = some [.int .i64 3] ∧ s'.c y = some [.int .i64 1]) ?_ ?_
  · simp [h0, hL, fnV, f67, q1, q2, q3, q4, q5, q6, q7]
    refine (gv46' 1 s1).mono ?_
    rintro r s' ⟨y, g1, rfl, rfl⟩
    have hne : x ≠ y := by rintro rfl; rw [hx] at g1; cases g1
    simp
    exact ⟨put1Ule' hle (fresh_le hle g1), by rw [put1Uo hne, hx], put1Uc _ _ _⟩
  rintro T L s2 ⟨y, h0, hL, q1, q2, q3, q4, q5, q6, q8, q9, q10, hle, hx, hy⟩
  simp only [List.drop]
  refine wpRs_cut 2 (fun T L s' => ∃ z : Nat, T 0 = .lp 0 1 0 ∧ L 0 = (1, List.replicate 26 .nilfn) ∧ T 1 = .agg [fnV 35, fnV 36] ∧ T 2 = .agg [fnV 35, fnV 37] ∧ T 3 = .agg [fnV 35, fnV 38] ∧ T 4 = .agg [fnV 39, fnV 40] ∧ T 5 = .agg [fnV 41, fnV 43] ∧
    T 6 = .agg [fnV 44, fnV 45] ∧ T 8 = .agg [f67 x, fnV 47] ∧ T 9 = .agg [fnV 48, fnV 49] ∧ T 11 = .agg [f67 y, fnV 50] ∧ T 12 = f67 z ∧ H.le s0 s' ∧ s'.c x = some [.int .i64 3] ∧ s'.c y = some [.int .i64 1] ∧ s'.c z = some [.int .i64 1]) ?_ ?_
  · simp [h0, hL, fnV, f67, q1, q2, q3, q4, q5, q6, q8, q9, q10]
    refine (gv46' 1 s2).mono ?_
    rintro r s' ⟨z, g1, rfl, rfl⟩
    have hne : x ≠ z := by rintro rfl; rw [hx] at g1; cases g1
    have hne' : y ≠ z := by rintro rfl; rw [hy] at g1; cases g1
    simp
    exact ⟨put1Ule' hle (fresh_le hle g1), by rw [put1Uo hne, hx], by rw [put1Uo hne', hy], put1Uc _ _ _⟩
  rintro T L s3 ⟨z, h0, hL, q1, q2, q3, q4, q5, q6, q8, q9, q11, q12, hle, hx, hy, hz⟩
  simp [h0, hL, fnV, f67, q1, q2, q3, q4, q5, q6, q8, q9, q11, q12]
  exact ⟨x, y, z, by simp [rowCells, fnV], hle, hx, hy, hz⟩)

def formT : List UInt8 := [102, 111, 114, 109]
def deepT : List UInt8 := [100, 101, 101, 112]
def kindT : List UInt8 := [107, 105, 110, 100]

/-- what goes up. -/
inductive Up where
  | text (t : List UInt8)
  | val (v : Val)
  | wait (key : List UInt8)
def Up.cells : Up → List V
  | .text t => .int .u8 1 :: (textCells t ++ [.str [], .int .i64 0])
  | .val v => .int .u8 1 :: (v.cells ++ [.str [], .int .i64 0])
  | .wait key => .int .u8 2 :: (zVal ++ [.str key, .int .i64 0])
/-- what an expression comes to. -/
inductive Out where
  | ok (v : Val)
  | up (u : Up)

theorem Up.len (u : Up) : u.cells.length = 11 := by
  cases u with
  | text t => simp [Up.cells, textCells]
  | val v => simp [Up.cells, v.len]
  | wait k => simp [Up.cells, zVal]

/-- what is left behind an evaluation. -/
def EvP (b : Nat) (come : V) (fuel inst : Int) (up : List V) (s : H) (o : Out × Int) (r : V) (s' : H) : Prop :=
  match o.1 with
  | .ok v => r = .tup [.agg v.cells, .bool true] ∧ s' = put1 s b (mcs come fuel inst o.2 up)
  | .up u => r = .tup [.agg zVal, .bool false] ∧ s' = put1 s b (mcs come fuel inst o.2 u.cells)

/-- what fails, by its text. -/
theorem fail26 (b : Nat) (come : V) (fuel inst steps : Int) (up : List V) (hup : up.length = 11) (t : List UInt8) (s : H) :
    AC Tryz.prog 26 [.ptr b 0, .str t] (put1 s b (mcs come fuel inst steps up)) (EvP b come fuel inst up s (.up (.text t), steps)) := by
  refine (gv26 b (mcs come fuel inst steps up) t _ (put1Uc _ _ _) (by simp [mcs, hup])).mono ?_
  rintro r s' ⟨rfl, rfl⟩
  exact ⟨rfl, by rw [put1Uput1]; rfl⟩

theorem mcs_3 (come : V) (fuel inst steps : Int) (up : List V) : (mcs come fuel inst steps up)[3]? = some (.int .i64 steps) := rfl
theorem mcs_1 (come : V) (fuel inst steps : Int) (up : List V) : (mcs come fuel inst steps up)[1]? = some (.int .i64 fuel) := rfl
theorem mcs_len (come : V) (fuel inst steps : Int) (up : List V) : (mcs come fuel inst steps up).length = up.length + 4 := rfl
theorem mcs_set (come : V) (fuel inst steps m : Int) (up : List V) : List.take 3 (mcs come fuel inst steps up) ++ V.int .i64 m :: List.drop 4 (mcs come fuel inst steps up) = mcs come fuel inst m up := rfl

def evalRes (fuel steps deep : Int) (m : Bool) (o : Out × Int) : Out × Int :=
  if fuel ≤ steps then (.up (.text fuelT), steps)
  else if 64 < deep then (.up (.text deepT), IntKind.i64.wrap (steps + 1))
  else if m = true then o else (.up (.text formT), IntKind.i64.wrap (steps + 1))

theorem EvP.weak {b : Nat} {come : V} {fuel inst : Int} {up : List V} {s s2 : H} {o : Out × Int} {f : Nat} {args : List V} {s0 : H} (hle : H.le s s2) (h : AC Tryz.prog f args s0 (EvP b come fuel inst up s2 o)) : AC Tryz.prog f args s0 (EvP b come fuel inst up s o) := by
  refine AC.weak h fun r s' hq => ?_
  obtain ⟨o, n⟩ := o
  cases o with
  | ok v =>
    obtain ⟨h1, h2⟩ := hq
    exact ⟨r, put1 s b _, Le.refl _, by rw [h2]; exact put1Ule2 hle, h1, rfl⟩
  | up u =>
    obtain ⟨h1, h2⟩ := hq
    exact ⟨r, put1 s b _, Le.refl _, by rw [h2]; exact put1Ule2 hle, h1, rfl⟩

set_option maxHeartbeats 2000000 in
/-- AN EXPRESSION BY ITS ROW: may it be; what it comes to. -/
theorem gv19 (b : Nat) (come : V) (fuel inst steps : Int) (up : List V) (hup : up.length = 11) (xs : List (List V)) (deep : Int) (e : Ex) (k : Nat) (hk : exKind e = (k : Int)) (hk13 : k < 13) (m : Bool) (o : Out × Int) (fm fd : Nat) (cap : Nat → Nat → Nat → List V)
    (hrow1 : ∀ x y z, (rowCells (f67 x) (f67 y) (f67 z))[k * 2]? = some (.fn (.func fm) [] (cap x y z))) (hrow2 : ∀ x y z, (rowCells (f67 x) (f67 y) (f67 z))[k * 2 + 1]? = some (fnV fd))
    (hmay : ∀ (s : H) (x y z : Nat), s.c x = some [.int .i64 3] → s.c y = some [.int .i64 1] → s.c z = some [.int .i64 1] → AC Tryz.prog fm (.agg e.cells :: cap x y z) s fun r s' => r = .bool m ∧ s' = s)
    (hdoes : m = true → steps < fuel → deep ≤ 64 → ∀ s : H, AC Tryz.prog fd [.ptr b 0, .agg [.sl xs [] false none, .int .i64 (IntKind.i64.wrap (deep + 1))], .agg e.cells] (put1 s b (mcs come fuel inst (IntKind.i64.wrap (steps + 1)) up)) (EvP b come fuel inst up s o)) (s : H) :
    AC Tryz.prog 19 [.ptr b 0, .agg [.sl xs [] false none, .int .i64 deep], .agg e.cells] (put1 s b (mcs come fuel inst steps up)) (EvP b come fuel inst up s (evalRes fuel steps deep m o)) := ac19 (by simp) (by
  obtain ⟨tl, htl, htl9⟩ : ∃ tl : List V, e.cells = .int .u8 k :: tl ∧ tl.length = 9 := by
    cases e; simp only [exKind] at hk; subst hk; exact ⟨_, rfl, rfl⟩
  simp only [htl] at hmay hdoes ⊢
  have het : List.take 9 tl = tl := by rw [← htl9, List.take_length]
  have hcz : (put1 s b (mcs come fuel inst steps up)).c b = some (mcs come fuel inst steps up) := put1Uc _ _ _
  simp only [sc19]
  refine wpS_cut (fun T L s' => T 0 = .ptr b 0 ∧ T 4 = .lp 4 1 0 ∧ L 4 = (1, [.sl xs [] false none, .int .i64 deep]) ∧ T 5 = .lp 5 1 0 ∧ L 5 = (1, .int .u8 k :: tl) ∧ T 6 = .lp 6 1 0 ∧ L 6 = (1, zVal) ∧ s' = put1 s b (mcs come fuel inst steps up)) (by simp [zVal, htl9]) ?_
  rintro T L s0 ⟨h0, h4, hL4, h5, hL5, h6, hL6, rfl⟩
  refine wpS_cut (fun T L s' => T 0 = .ptr b 0 ∧ T 4 = .lp 4 1 0 ∧ L 4 = (1, [.sl xs [] false none, .int .i64 deep]) ∧ T 5 = .lp 5 1 0 ∧ L 5 = (1, .int .u8 k :: tl) ∧ T 6 = .lp 6 1 0 ∧ L 6 = (1, zVal) ∧ s' = put1 s b (mcs come fuel inst steps up) ∧ steps < fuel) ?_ ?_
  · by_cases hf : fuel ≤ steps
    · have hcm : (mcs come fuel inst steps up)[3]? = some (.int .i64 steps) ∧ (mcs come fuel inst steps up)[1]? = some (.int .i64 fuel) := ⟨rfl, rfl⟩
      simp [h0, h6, hL6, hcz, hcm.1, hcm.2, hf]
      refine (fail26 b come fuel inst steps up hup fuelT s).mono ?_
      rintro r s' ⟨rfl, rfl⟩
      simp [zVal, evalRes, hf, EvP]
    · have hf' : steps < fuel := by omega
      have hcm : (mcs come fuel inst steps up)[3]? = some (.int .i64 steps) ∧ (mcs come fuel inst steps up)[1]? = some (.int .i64 fuel) := ⟨rfl, rfl⟩
      simp [h0, h4, hL4, h5, hL5, h6, hL6, hcz, hcm.1, hcm.2, hf, hf']
  rintro T L s1 ⟨h0, h4, hL4, h5, hL5, h6, hL6, rfl, hf⟩
  have hf' : ¬ fuel ≤ steps := by omega
  generalize hst : IntKind.i64.wrap (steps + 1) = steps1 at hdoes
  refine wpS_cut (fun T L s' => T 0 = .ptr b 0 ∧ T 4 = .lp 4 1 0 ∧ L 4 = (1, [.sl xs [] false none, .int .i64 deep]) ∧ T 5 = .lp 5 1 0 ∧ L 5 = (1, .int .u8 k :: tl) ∧ T 6 = .lp 6 1 0 ∧ L 6 = (1, zVal) ∧ s' = put1 s b (mcs come fuel inst steps1 up)) ?_ ?_
  · simp [h0, h4, hL4, h5, hL5, h6, hL6, hcz, mcs_3, mcs_len, mcs_set, hst]
    exact put1Uput1 _ _ _ _
  rintro T L s2 ⟨h0, h4, hL4, h5, hL5, h6, hL6, rfl⟩
  refine wpS_cut (fun T L s' => T 0 = .ptr b 0 ∧ T 4 = .lp 4 1 0 ∧ L 4 = (1, [.sl xs [] false none, .int .i64 deep]) ∧ T 5 = .lp 5 1 0 ∧ L 5 = (1, .int .u8 k :: tl) ∧ T 6 = .lp 6 1 0 ∧ L 6 = (1, zVal) ∧ s' = put1 s b (mcs come fuel inst steps1 up) ∧ deep ≤ 64) ?_ ?_
  · by_cases hd : 64 < deep
    · simp [h0, h4, hL4, h6, hL6, hd]
      refine (fail26 b come fuel inst steps1 up hup deepT s).mono ?_
      rintro r s' ⟨rfl, rfl⟩
      simp [zVal, evalRes, hf', hd, hst, EvP]
    · have hd' : deep ≤ 64 := by omega
      simp [h0, h4, hL4, h5, hL5, h6, hL6, hd, hd']
  rintro T L s3 ⟨h0, h4, hL4, h5, hL5, h6, hL6, rfl, hd⟩
  have hd' : ¬ 64 < deep := by omega
  have hres : evalRes fuel steps deep m o = if m = true then o else (.up (.text formT), steps1) := by simp only [evalRes, if_neg hf', if_neg hd', hst]
  rw [hres]
  refine wpS_cut (fun T L s' => ∃ u x y z : Nat, T 0 = .ptr b 0 ∧ T 4 = .lp 4 1 0 ∧ L 4 = (1, [.sl xs [] false none, .int .i64 deep]) ∧ T 5 = .lp 5 1 0 ∧ L 5 = (1, .int .u8 k :: tl) ∧ T 6 = .lp 6 1 0 ∧ L 6 = (1, zVal) ∧ H.le (put1 s b (mcs come fuel inst steps1 up)) s' ∧
    T 8 = .lp 8 u 0 ∧ L 8 = (u, rowCells (f67 x) (f67 y) (f67 z)) ∧ s'.c x = some [.int .i64 3] ∧ s'.c y = some [.int .i64 1] ∧ s'.c z = some [.int .i64 1]) ?_ ?_
  · simp [h0, h4, hL4, h5, hL5, h6, hL6]
    refine (gv27' _).mono ?_
    rintro r s' ⟨x, y, z, rfl, hle, q1, q2, q3⟩
    simp [rowCells, fnV, f67]
    exact ⟨hle, x, y, z, ⟨rfl, rfl, rfl⟩, q1, q2, q3⟩
  rintro T L s4 ⟨u, x, y, z, h0, h4, hL4, h5, hL5, h6, hL6, hle, h8, hL8, q1, q2, q3⟩
  have r1 := hrow1 x y z
  have r2 := hrow2 x y z
  have rl : (rowCells (f67 x) (f67 y) (f67 z)).length = 26 := rfl
  generalize rowCells (f67 x) (f67 y) (f67 z) = rc at hL8 r1 r2 rl
  -- the machine's block, in the later memory
  have hs4 : put1 s4 b (mcs come fuel inst steps1 up) = s4 := by
    have := hle.1 _ _ (put1Uc s b (mcs come fuel inst steps1 up))
    simp only [put1]
    have e : upd s4.c b (some (mcs come fuel inst steps1 up)) = s4.c := by
      funext i
      simp only [upd]
      split
      · rename_i e; rw [e, this]
      · rfl
    rw [e]
  have hlow : H.le (put1 s b (mcs come fuel inst steps1 up)) s4 := hle
  -- less is owned in the end
  have weak : ∀ {f : Nat} {args : List V} {o : Out × Int}, AC Tryz.prog f args s4 (EvP b come fuel inst up s4 o) → AC Tryz.prog f args s4 (EvP b come fuel inst up s o) := by
    intro f args o h
    refine AC.weak h fun r s' hq => ?_
    obtain ⟨o, n⟩ := o
    have lep : ∀ cs, H.le (put1 s b cs) (put1 s4 b cs) := fun cs => by
      have := put1Ule2 (b := b) (cs := cs) hle
      rwa [put1Uput1] at this
    cases o with
    | ok v =>
      obtain ⟨h1, h2⟩ := hq
      exact ⟨r, put1 s b _, Le.refl _, by rw [h2]; exact lep _, h1, rfl⟩
    | up u =>
      obtain ⟨h1, h2⟩ := hq
      exact ⟨r, put1 s b _, Le.refl _, by rw [h2]; exact lep _, h1, rfl⟩
  have hkw : IntKind.i64.wrap (k : Int) = k := wrap_small k (by unfold top; omega)
  have hkn : ¬ (13 : Int) ≤ k := by omega
  refine wpS_cut (fun T L s' => T 0 = .ptr b 0 ∧ T 4 = .lp 4 1 0 ∧ L 4 = (1, [.sl xs [] false none, .int .i64 deep]) ∧ T 5 = .lp 5 1 0 ∧ L 5 = (1, .int .u8 k :: tl) ∧ T 6 = .lp 6 1 0 ∧ L 6 = (1, zVal) ∧ T 8 = .lp 8 u 0 ∧ L 8 = (u, rc) ∧ s' = s4 ∧ m = true) ?_ ?_
  · refine wpS_cut (fun T L s' => T 0 = .ptr b 0 ∧ T 4 = .lp 4 1 0 ∧ L 4 = (1, [.sl xs [] false none, .int .i64 deep]) ∧ T 5 = .lp 5 1 0 ∧ L 5 = (1, .int .u8 k :: tl) ∧ T 6 = .lp 6 1 0 ∧ L 6 = (1, zVal) ∧ T 8 = .lp 8 u 0 ∧ L 8 = (u, rc) ∧ s' = s4 ∧ T 51 = .bool (!m)) ?_ ?_
    · have hm4 := hmay s4 x y z q1 q2 q3
      simp [h0, h4, hL4, h5, hL5, h6, hL6, h8, hL8, hkw, hkn, r1, hk13, htl9, het]
      refine hm4.mono ?_
      rintro r s' ⟨rfl, rfl⟩
      simp []
    rintro T L s5 ⟨h0, h4, hL4, h5, hL5, h6, hL6, h8, hL8, rfl, h51⟩
    cases m
    · simp [h0, h6, hL6, h51]
      have := fail26 b come fuel inst steps1 up hup formT s5
      rw [hs4] at this
      refine (weak this).mono ?_
      rintro r s' ⟨rfl, rfl⟩
      simp [zVal, EvP]
    · simp [h0, h4, hL4, h5, hL5, h6, hL6, h8, hL8, h51]
  rintro T L s5 ⟨h0, h4, hL4, h5, hL5, h6, hL6, h8, hL8, rfl, rfl⟩
  refine wpS_cut (fun T L s' => T 0 = .ptr b 0 ∧ T 4 = .lp 4 1 0 ∧ L 4 = (1, [.sl xs [] false none, .int .i64 (IntKind.i64.wrap (deep + 1))]) ∧ T 5 = .lp 5 1 0 ∧ L 5 = (1, .int .u8 k :: tl) ∧ T 6 = .lp 6 1 0 ∧ L 6 = (1, zVal) ∧ T 8 = .lp 8 u 0 ∧ L 8 = (u, rc) ∧ s' = s5) ?_ ?_
  · simp [h0, h4, hL4, h5, hL5, h6, hL6, h8, hL8]
  rintro T L s6 ⟨h0, h4, hL4, h5, hL5, h6, hL6, h8, hL8, rfl⟩
  have hd5 := hdoes rfl hf hd s6
  rw [hs4] at hd5
  simp [h0, h4, hL4, h5, hL5, h6, hL6, h8, hL8, r2, hk13, htl9, het, fnV]
  refine (weak hd5).mono ?_
  intro r s' hq
  obtain ⟨o, n⟩ := o
  cases o with
  | ok v =>
    obtain ⟨rfl, rfl⟩ := hq
    have hl := v.len
    have ht : List.take 8 v.cells = v.cells := by rw [← hl, List.take_length]
    simp [zVal, hl, ht, EvP]
    exact Val.one v
  | up w =>
    obtain ⟨rfl, rfl⟩ := hq
    simp [zVal, EvP])

end Go.Proofs.YthjjlmkooofdiaaGreatDoor

/-
  VlZn: copies.Value: the value, in memory of its own.
-/
namespace Go.Proofs.YthjjlmkooofdiaaGreatDoor
open Go Go.VL

/-- what a copied list is, ahead of its being told as a list. -/
def Cp (s : H) (xs : List (List V)) (r : V) (s' : H) : Prop := (xs = [] ∧ r = .sl [] [] true none ∧ s' = s) ∨ (xs ≠ [] ∧ ∃ b c, s.c b = none ∧ xs.length ≤ c ∧ c < top ∧ r = .hs b 0 xs.length c ∧ s' = own s b xs)

theorem Cp.frozen {P : Program} {f : Nat} {args : List V} {xs : List (List V)} {k : Nat} (hk : ∀ x ∈ xs, x.length = k) (h : ∀ s, AC P f args s (Cp s xs)) : Gv P f args (.sl xs [] false none) := fun s => by
  refine AC.weak (Q := fun r s' => (r = .sl [] [] true none ∧ xs = [] ∨ r = .sl xs [] false none) ∧ s' = s) ?_ fun r s' ⟨h1, h2⟩ => ?_
  · refine AC.frozen (h s) fun r s' hq => ?_
    rcases hq with ⟨h1, h2, h3⟩ | ⟨h1, b, c, q1, q2, q3, q4, q5⟩
    · exact .inl ⟨.inl ⟨h2, h1⟩, h3⟩
    · refine .inr ⟨b, xs.length, c, k, xs, q4, by rw [q5]; exact own_c, hk, rfl, q2, q3, .inr rfl, ?_⟩
      rw [q5]; exact own_lose q1
  · rcases h1 with ⟨h1, h3⟩ | h1
    · exact ⟨_, s', by rw [h1, h3]; exact Le.sl _ _ _ _, H.le.refl _, rfl, h2⟩
    · exact ⟨r, s', Le.refl _, H.le.refl _, h1, h2⟩

theorem gv139 (xs : List (List V)) (hx : ∀ x ∈ xs, x.length = 8 ∧ (∀ v ∈ x, one v = true) ∧ Gv Tryz.prog 81 [.agg x] (.agg x)) (hroom : xs.length * 1024 ≤ 140737488355328) : Gv Tryz.prog 139 [.sl xs [] false none, fnV 81] (.sl xs [] false none) := by
  have hl : ∀ x ∈ xs, x.length = 8 := fun x h => (hx x h).1
  refine Cp.frozen hl fun s => ac139 (by simp) ?_
  have hcl := clone108 xs (fun x h => ⟨(hx x h).1, (hx x h).2.1⟩) hroom
  simp only [sc139]
  refine wpS_cut (fun T L s' => T 0 = .sl xs [] false none ∧ T 1 = fnV 81 ∧ s' = s) (by simp) ?_
  rintro T L s0 ⟨h0, h1, rfl⟩
  refine wpS_cut (fun T L s' => T 1 = fnV 81 ∧ Cloned s0 xs (T 5) s') ?_ ?_
  · simp [h0, h1]
    exact (hcl s0).mono fun r s' h => by simpa [h1] using h
  rintro T L s1 ⟨h1, hc⟩
  rcases hc with ⟨rfl, h5, rfl⟩ | ⟨hne, b, c, hb1, hb2, hc1, hc2, h5, rfl⟩
  · refine wpS_cut (fun T L s' => T 5 = .sl [] [] true none ∧ s' = s1) ?_ ?_
    · simp [h5]
      intro _
      refine ⟨fun n T L s' => T 5 = .sl [] [] true none ∧ T 11 = .int .i64 0 ∧ T 12 = .int .i64 0 ∧ s' = s1, ⟨0, by simp [h5]⟩, ?_⟩
      rintro n T L s' ⟨h5, h11, h12, rfl⟩
      simp [h5, h11, h12]
    rintro T L s2 ⟨h5, rfl⟩
    simp [h5, Cp]
  · refine wpS_cut (fun T L s' => T 5 = .hs b 0 xs.length c ∧ s' = own s0 b xs) ?_ ?_
    · refine wpS_cut (fun T L s' => T 1 = fnV 81 ∧ T 5 = .hs b 0 xs.length c ∧ T 10 = .hs b 0 xs.length c ∧ T 11 = .int .i64 xs.length ∧ T 12 = .int .i64 0 ∧ s' = own s0 b xs) (by simp [h1, h5]) ?_
      rintro T L s1 ⟨h1, h5, h10, h11, h12, rfl⟩
      refine wpS_block (wpS_loop (fun n T L s' => ∃ i, i ≤ xs.length ∧ n = xs.length - i ∧ T 1 = fnV 81 ∧ T 5 = .hs b 0 xs.length c ∧ T 10 = .hs b 0 xs.length c ∧ T 11 = .int .i64 xs.length ∧ T 12 = .int .i64 (i : Nat) ∧ s' = own s0 b xs) ?_ ?_)
      · exact ⟨xs.length, 0, by simp, by simp, h1, h5, h10, h11, by simp [h12], rfl⟩
      · rintro n T L s' ⟨i, hi, rfl, h1, h5, h10, h11, h12, rfl⟩
        by_cases hlt : i < xs.length
        · obtain ⟨q1, q2, q3⟩ := hx xs[i] (List.getElem_mem _)
          have hfl := flat_room hl hlt
          rw [flatten_len hl] at hfl
          have ht : List.take 8 xs[i] = xs[i] := by rw [← q1, List.take_length]
          simp [h1, h5, h10, h11, h12, hlt, own_c, flatten_len hl, hfl, flat_row hl i hlt, q1, ht, fnV]
          refine ⟨q2, (q3 _).mono ?_⟩
          rintro r s' ⟨rfl, rfl⟩
          simp [q1, own_c, flatten_len hl, hfl, set_same hl hlt, own_set]
          refine ⟨q2, xs.length - (i + 1), by omega, i + 1, by omega, rfl, wrap_succ i (by unfold top at *; omega)⟩
        · have : i = xs.length := by omega
          subst this
          simp [h5, h11, h12]
    rintro T L s2 ⟨h5, rfl⟩
    simp [h5, Cp, hne]
    exact ⟨b, hb1, c, hc1, hc2, ⟨rfl, rfl⟩, rfl⟩

theorem gv140 (xs : List (List V)) (hx : ∀ x ∈ xs, x.length = 9 ∧ (∀ v ∈ x, one v = true) ∧ Gv Tryz.prog 141 [.agg x] (.agg x)) (hroom : xs.length * 1024 ≤ 140737488355328) : Gv Tryz.prog 140 [.sl xs [] false none, fnV 141] (.sl xs [] false none) := by
  have hl : ∀ x ∈ xs, x.length = 9 := fun x h => (hx x h).1
  refine Cp.frozen hl fun s => ac140 (by simp) ?_
  have hcl := clone110 xs (fun x h => ⟨(hx x h).1, (hx x h).2.1⟩) hroom
  simp only [sc140]
  refine wpS_cut (fun T L s' => T 0 = .sl xs [] false none ∧ T 1 = fnV 141 ∧ s' = s) (by simp) ?_
  rintro T L s0 ⟨h0, h1, rfl⟩
  refine wpS_cut (fun T L s' => T 1 = fnV 141 ∧ Cloned s0 xs (T 5) s') ?_ ?_
  · simp [h0, h1]
    exact (hcl s0).mono fun r s' h => by simpa [h1] using h
  rintro T L s1 ⟨h1, hc⟩
  rcases hc with ⟨rfl, h5, rfl⟩ | ⟨hne, b, c, hb1, hb2, hc1, hc2, h5, rfl⟩
  · refine wpS_cut (fun T L s' => T 5 = .sl [] [] true none ∧ s' = s1) ?_ ?_
    · simp [h5]
      intro _
      refine ⟨fun n T L s' => T 5 = .sl [] [] true none ∧ T 11 = .int .i64 0 ∧ T 12 = .int .i64 0 ∧ s' = s1, ⟨0, by simp [h5]⟩, ?_⟩
      rintro n T L s' ⟨h5, h11, h12, rfl⟩
      simp [h5, h11, h12]
    rintro T L s2 ⟨h5, rfl⟩
    simp [h5, Cp]
  · refine wpS_cut (fun T L s' => T 5 = .hs b 0 xs.length c ∧ s' = own s0 b xs) ?_ ?_
    · refine wpS_cut (fun T L s' => T 1 = fnV 141 ∧ T 5 = .hs b 0 xs.length c ∧ T 10 = .hs b 0 xs.length c ∧ T 11 = .int .i64 xs.length ∧ T 12 = .int .i64 0 ∧ s' = own s0 b xs) (by simp [h1, h5]) ?_
      rintro T L s1 ⟨h1, h5, h10, h11, h12, rfl⟩
      refine wpS_block (wpS_loop (fun n T L s' => ∃ i, i ≤ xs.length ∧ n = xs.length - i ∧ T 1 = fnV 141 ∧ T 5 = .hs b 0 xs.length c ∧ T 10 = .hs b 0 xs.length c ∧ T 11 = .int .i64 xs.length ∧ T 12 = .int .i64 (i : Nat) ∧ s' = own s0 b xs) ?_ ?_)
      · exact ⟨xs.length, 0, by simp, by simp, h1, h5, h10, h11, by simp [h12], rfl⟩
      · rintro n T L s' ⟨i, hi, rfl, h1, h5, h10, h11, h12, rfl⟩
        by_cases hlt : i < xs.length
        · obtain ⟨q1, q2, q3⟩ := hx xs[i] (List.getElem_mem _)
          have hfl := flat_room hl hlt
          rw [flatten_len hl] at hfl
          have ht : List.take 9 xs[i] = xs[i] := by rw [← q1, List.take_length]
          simp [h1, h5, h10, h11, h12, hlt, own_c, flatten_len hl, hfl, flat_row hl i hlt, q1, ht, fnV]
          refine ⟨q2, (q3 _).mono ?_⟩
          rintro r s' ⟨rfl, rfl⟩
          simp [q1, own_c, flatten_len hl, hfl, set_same hl hlt, own_set]
          refine ⟨q2, xs.length - (i + 1), by omega, i + 1, by omega, rfl, wrap_succ i (by unfold top at *; omega)⟩
        · have : i = xs.length := by omega
          subst this
          simp [h5, h11, h12]
    rintro T L s2 ⟨h5, rfl⟩
    simp [h5, Cp, hne]
    exact ⟨b, hb1, c, hc1, hc2, ⟨rfl, rfl⟩, rfl⟩

theorem gv81 (k n : Int) (t : List UInt8) (l : List Val) (f : List Fld) (el : Int) (key : List UInt8) (has : Bool) (hl : Gv Tryz.prog 101 [.sl (Val.rows l) [] false none] (.sl (Val.rows l) [] false none))
    (hf : Gv Tryz.prog 102 [.sl (Fld.rows f) [] false none] (.sl (Fld.rows f) [] false none)) : Gv Tryz.prog 81 [.agg (Val.mk k n t l f el key has).cells] (.agg (Val.mk k n t l f el key has).cells) := fun s => ac81 (by simp) (by
  simp [sc81, Val.cells]
  refine (hl s).mono ?_
  rintro r s' ⟨rfl, rfl⟩
  simp
  refine (hf s').mono ?_
  rintro r s'' ⟨rfl, rfl⟩
  simp)

theorem gv141 (name : List UInt8) (v : Val) (h : Gv Tryz.prog 81 [.agg v.cells] (.agg v.cells)) : Gv Tryz.prog 141 [.agg (Fld.mk name v).cells] (.agg (Fld.mk name v).cells) := fun s => ac141 (by simp) (by
  have hl := v.len
  have ht : List.take 8 v.cells = v.cells := by rw [← hl, List.take_length]
  simp [sc141, Fld.cells, hl, ht]
  refine (h s).mono ?_
  rintro r s' ⟨rfl, rfl⟩
  have hone := Val.one v
  simp [hl, ht]
  exact hone)

theorem gv101 (l : List Val) (hn : l.length ≤ 1048576) (h : ∀ x ∈ l, Gv Tryz.prog 81 [.agg x.cells] (.agg x.cells)) : Gv Tryz.prog 101 [.sl (Val.rows l) [] false none] (.sl (Val.rows l) [] false none) := fun s => ac101 (by simp) (by
  have := gv139 (Val.rows l) (fun x hx => by
    rw [Val.rows_eq] at hx
    obtain ⟨a, ha, rfl⟩ := List.mem_map.1 hx
    exact ⟨Val.len a, Val.one a, h a ha⟩) (by rw [Val.rows_eq]; exact clone_room (by simpa using hn))
  simp [sc101]
  refine AC.mono (this s) ?_
  rintro r s' ⟨rfl, rfl⟩
  simp)

theorem gv102 (l : List Fld) (hn : l.length ≤ 1048576) (h : ∀ x ∈ l, Gv Tryz.prog 141 [.agg x.cells] (.agg x.cells)) : Gv Tryz.prog 102 [.sl (Fld.rows l) [] false none] (.sl (Fld.rows l) [] false none) := fun s => ac102 (by simp) (by
  have := gv140 (Fld.rows l) (fun x hx => by
    rw [Fld.rows_eq] at hx
    obtain ⟨a, ha, rfl⟩ := List.mem_map.1 hx
    exact ⟨Fld.len a, Fld.one a, h a ha⟩) (by rw [Fld.rows_eq]; exact clone_room (by simpa using hn))
  simp [sc102]
  refine AC.mono (this s) ?_
  rintro r s' ⟨rfl, rfl⟩
  simp)

mutual
theorem copy_val : ∀ v : Val, Fit v → Gv Tryz.prog 81 [.agg v.cells] (.agg v.cells)
  | .mk k n s l f el key has, h => by
    simp only [Fit] at h
    exact gv81 k n s l f el key has (gv101 l h.1 (copy_vals l h.2.2.1)) (gv102 f h.2.1 (copy_flds f h.2.2.2))
theorem copy_vals : ∀ l : List Val, Fits l → ∀ x ∈ l, Gv Tryz.prog 81 [.agg x.cells] (.agg x.cells)
  | [], _, x, h => by cases h
  | v :: l, hf, x, h => by
    simp only [Fits] at hf
    rcases List.mem_cons.1 h with e | h
    · rw [e]; exact copy_val v hf.1
    · exact copy_vals l hf.2 x h
theorem copy_fld : ∀ v : Fld, FitF v → Gv Tryz.prog 141 [.agg v.cells] (.agg v.cells)
  | .mk name v, h => by simp only [FitF] at h; exact gv141 name v (copy_val v h)
theorem copy_flds : ∀ l : List Fld, FitFs l → ∀ x ∈ l, Gv Tryz.prog 141 [.agg x.cells] (.agg x.cells)
  | [], _, x, h => by cases h
  | v :: l, hf, x, h => by
    simp only [FitFs] at hf
    rcases List.mem_cons.1 h with e | h
    · rw [e]; exact copy_fld v hf.1
    · exact copy_flds l hf.2 x h
end

end Go.Proofs.YthjjlmkooofdiaaGreatDoor
