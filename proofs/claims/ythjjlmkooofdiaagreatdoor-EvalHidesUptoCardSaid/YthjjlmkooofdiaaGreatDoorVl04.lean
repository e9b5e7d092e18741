/-
  a part of the proof: the texts VlH, VlI, joined: helper laws; none of them is the statement.
-/
import Derived.Test.YthjjlmkooofdiaaGreatDoorVl03
import Derived.Laws.IdiomCopy
import Derived.Laws.AppendOwn

/-
  VlH: each operation of the layer does in the machine what VlC says.
-/
namespace Go.VL
open Go

/-- what holds behind an operation. -/
def Nx (N : Fr) (En : Entry) (K : Post) : Act → World → Prop := fun a w => ∃ T L s, Ok N En T L s a w ∧ K T L s

section
variable {P : Program} {N : Fr} {En : Entry} {s : H} {T : Nat → V} {L : Nat → Nat × List V} {a : Act} {w : World} {K : Post} {Q : Exit → Act → World → Prop} {lps : List Nat} {o : Oper}

theorem wp_value {cv : Value} {w' : World} (hr : (execOp a.eval o).run P w = .ok (.value cv) w') {next : Act → World → Prop} (h : next (a.put o.dst cv) w') : o.wp P a w next Q := by
  simp only [Oper.wp, hr, Oper.upon_value]; exact h

theorem wp_skip' {w' : World} (hr : (execOp a.eval o).run P w = .ok .skip w') {next : Act → World → Prop} (h : next (a.put o.dst undef) w') : o.wp P a w next Q := by
  simp only [Oper.wp, hr, Oper.upon_skip]; exact h

theorem r_pf {e : E} {d : Nat} (hc : compE P lps o = some e) (hd : o.dst = some d) (hN : d < N) (h : Ok N En T L s a w) (hw : wpR P (.pf d e) K T L s) : o.wp P a w (Nx N En K) Q := by
  obtain ⟨I, lb, hr, hs, hf⟩ := h
  simp only [wpR] at hw
  split at hw
  · rename_i v hv
    obtain ⟨hn, hk⟩ := hw
    obtain ⟨cv, h1, h2⟩ := compE_sound hc hr hv hn
    refine wp_value h1 ⟨_, L, s, ⟨I, lb, hr.put (d := o.dst) (by rw [hd]; rintro x ⟨⟩; exact hN) h2, hs, hf⟩, ?_⟩
    rw [hd]
    refine hk ?_
    -- what a length is known to keep
    cases e <;> simp only [facts]
    case len st x =>
      cases x <;> simp only
      rename_i i
      cases hx : T i <;> simp only [lenFact]
      have := hr.t i
      rw [hx] at this
      simp only [RF, RV] at this
      obtain ⟨_, cap, _, h1, _, h3, _⟩ := this
      omega
  · exact hw.elim

theorem r_p {e : E} {d : Nat} (hc : compE P lps o = some e) (hd : o.dst = some d) (hN : d < N) (h : Ok N En T L s a w) (hw : wpR P (.p d e) K T L s) : o.wp P a w (Nx N En K) Q := by
  refine r_pf hc hd hN h ?_
  simp only [wpR] at hw ⊢
  split at hw
  · exact ⟨hw.1, fun _ => hw.2⟩
  · exact hw.elim


theorem run_enter {f : Nat} {args : Array Value} (h : okFn P f = true) (w : World) : (callFunc f args).run P w = .ok (.enter f args) w := by
  unfold okFn at h
  split at h
  · rename_i fn hf
    simp only [Bool.and_eq_true, bne_iff_ne, ne_eq] at h
    have hb : fn.body.isNone = false := by cases hb : fn.body <;> simp_all
    simp only [callFunc, Sem.run_bind, run_program, Result.andThen_ok, hf]
    rw [if_neg (by simpa using h.1)]
    simp [hb]
  · cases h

/-- a call by its contract. -/
theorem call_ac {f : Nat} {vs : List V} {args : Array Value} {I : Nat → Nat → Prop} {lb : Nat → Nat × Nat} (hr : Rel N I s T L lb a w) (hs : Sin En.I En.s En.w I s w)
    (hfr : ∀ k, (L k).2 ≠ [] → En.w.heap.size ≤ (lb k).2) (hN : ∀ d, o.dst = some d → d < N) (hv : RVs I w vs args.toList)
    (he : (execOp a.eval o).run P w = .ok (.enter f args) w) (h : AC P f vs s fun r s' => K (put T o.dst r) L s') : o.wp P a w (Nx N En K) Q := by
  simp only [Oper.wp, he, Oper.upon_enter]
  refine (h.2 I w args hr.h hv).mono ?_
  rintro e w' ⟨v, r, I', s', rfl, hsin, hh, hrv, hk⟩
  exact ⟨_, L, s', Ok.after hr hs hfr hsin hh hN (RF.of_rv hrv), hk⟩

theorem r_call {f : Nat} {as : Array Operand} {xs : List X} {ts : Array TypeId} (ho : o.op = .call { callee := .value (.func f), args := as, argTypes := ts }) (hx : cXs as.toList = some xs)
    (hN : ∀ d, o.dst = some d → d < N) (h : Ok N En T L s a w) (hw : wpR P (.call o.dst f xs) K T L s) : o.wp P a w (Nx N En K) Q := by
  obtain ⟨I, lb, hr, hs, hf⟩ := h
  simp only [wpR] at hw
  obtain ⟨hk, hac⟩ := hw
  have hv : RVs I w (xs.map (X.ev T)) (as.map a.eval).toList := by simpa using cXs_sound hx hr.t hk
  refine call_ac hr hs hf hN hv ?_ hac
  have : execOp a.eval o = (do let d ← resolve a.eval { callee := .value (.func f), args := as, argTypes := ts } o.type; invoke d.target d.args) := by
    obtain ⟨dst, op, ty, pos, after, guard⟩ := o
    simp only at ho; subst ho; rfl
  rw [this]
  have := run_enter (P := P) (args := as.map a.eval) hac.1 w
  simp [resolve, Act.eval, Deferred.ofValue, invoke, this]

/-- an operation that goes through, or is a call of yield whose round is known. -/
def wpY (P : Program) (o : Oper) (a : Act) (w : World) (next : Act → World → Prop) : Prop :=
  o.wp P a w next (fun _ _ _ => False) ∨ ((∀ c, o.op ≠ .defer c) ∧ ∃ l fn tmps as bd, (execOp a.eval o).run P w = .ok (.round l fn tmps as bd) w ∧ RoundIn Fence.wide 0 P l fn tmps as bd w fun
    | .returned v, w'' => next (a.put o.dst v) w''
    | _, _ => False)

theorem r_callv {x : Operand} {x' : X} {as : Array Operand} {xs : List X} {ts : Array TypeId} (ho : o.op = .call { callee := .value x, args := as, argTypes := ts }) (hx' : cX x = some x') (hx : cXs as.toList = some xs)
    (hN : ∀ d, o.dst = some d → d < N) (h : Ok N En T L s a w) (hw : wpR P (.callv o.dst x' xs) K T L s) : wpY P o a w (Nx N En K) := by
  obtain ⟨I, lb, hr, hs, hf⟩ := h
  simp only [wpR] at hw
  split at hw
  · rename_i f fi ca e
    obtain ⟨hk, hac⟩ := hw
    have h1 := cX_sound hx' hr.t
    rw [e] at h1
    simp only [RF, RV] at h1
    obtain ⟨a1, a2, ha, r1, r2⟩ := h1
    have hv : RVs I w (fi ++ xs.map (X.ev T) ++ ca) (a1 ++ as.map a.eval ++ a2).toList := by
      simp only [Array.toList_append]
      exact (r1.append (by simpa using cXs_sound hx hr.t hk)).append r2
    refine .inl (call_ac hr hs hf hN hv ?_ hac)
    have : execOp a.eval o = (do let d ← resolve a.eval { callee := .value x, args := as, argTypes := ts } o.type; invoke d.target d.args) := by
      obtain ⟨dst, op, ty, pos, after, guard⟩ := o
      simp only at ho; subst ho; rfl
    rw [this]
    have := run_enter (P := P) (args := a1 ++ as.map a.eval ++ a2) hac.1 w
    rw [Array.append_assoc] at this
    simp [resolve, Deferred.ofValue, ha, invoke, this, Array.append_assoc]
  · rename_i l e
    obtain ⟨hk, hyc⟩ := hw
    have h1 := cX_sound hx' hr.t
    rw [e] at h1
    simp only [RF, RV] at h1
    obtain ⟨a1, a2, ha, r1, r2⟩ := h1
    have hv : RVs I w (xs.map (X.ev T)) (as.map a.eval).toList := by simpa using cXs_sound hx hr.t hk
    obtain ⟨fn, tmps, asg, bd, hy, hround⟩ := hyc I w _ hr.h hv
    have hdef : ∀ c, o.op ≠ .defer c := by intro c e'; rw [ho] at e'; cases e'
    refine .inr ⟨hdef, l, fn, tmps, asg, bd, ?_, ?_⟩
    · have : execOp a.eval o = (do let d ← resolve a.eval { callee := .value x, args := as, argTypes := ts } o.type; invoke d.target d.args) := by
        obtain ⟨dst, op, ty, pos, after, guard⟩ := o
        simp only at ho; subst ho; rfl
      rw [this]
      have h0 : a1 = #[] := by
        have := r1.length
        simpa using this.symm
      simp [resolve, Deferred.ofValue, ha, invoke, hy, h0]
    · refine hround.mono ?_
      rintro e' w' ⟨v, r, I', s', rfl, hsin, hh, hrv, hk'⟩
      exact ⟨_, L, s', Ok.after hr hs hf hsin hh hN (RF.of_rv hrv), hk'⟩
  · exact hw.elim

theorem cells_single {v : V} {cv : Value} {I : Nat → Nat → Prop} {lb : Nat → Nat × Nat} (hs : solid v = true) (h : RF I w lb v cv) : cv.cells.size = (cellsOf v).length := by
  have := (cells_rel hs h).length
  simp at this; omega

/-- a box of the frame. -/
theorem r_boxl {d n : Nat} {x : X} {t : TypeId} {cv : Value} (hd : o.dst = some d) (hN : d < N) (he : ∀ w : World, (execOp a.eval o).run P w = .ok (.value (.pointer (some ⟨w.heap.size, 0, none⟩))) (w.alloc (.cells cv.cells t)))
    (h : Ok N En T L s a w) (hx : ∀ (I : Nat → Nat → Prop) (lb : Nat → Nat × Nat), Rel N I s T L lb a w → RF I w lb (x.ev T) cv) (hw : wpR P (.boxl d n x) K T L s) : o.wp P a w (Nx N En K) Q := by
  obtain ⟨I, lb, hr, hs, hf⟩ := h
  simp only [wpR] at hw
  obtain ⟨hsol, hlen, hpos, hk⟩ := hw
  have hx := hx I lb hr
  have hal : Sin I s w I s (w.alloc (.cells cv.cells t)) := Sin.alloc hr.h (fun _ _ h => h) (fun _ _ h => .inl h)
  have hh : RelH I s (w.alloc (.cells cv.cells t)) := hr.h.alloc (fun _ _ h => h) (fun _ _ h => .inl h)
  have hcs := RVs.keeps hal.keeps _ _ (cells_rel hsol hx)
  have hr2 := hr.after hal hh
  refine wp_value (he w) ⟨_, _, s, ⟨I, upd lb d ((lb d).1 + 1, w.heap.size), ?_, hs.trans hal, ?_⟩, hk⟩
  · have base : Rel N I s T (upd L d ((L d).1 + 1, cellsOf (x.ev T))) (upd lb d ((lb d).1 + 1, w.heap.size)) a (w.alloc (.cells cv.cells t)) := by
      refine ⟨hh, fun i => RF.anew d _ (hr2.t i), hr.n, hr2.d, fun k => ?_, fun k hk => ?_, fun k k' hk hk' e => ?_⟩
      · simp only [upd]; split
        · rename_i e; subst e; simp only [hr.u]
        · exact hr.u k
      · simp only [upd] at hk ⊢
        split
        · rename_i e; subst e
          refine ⟨⟨cv.cells, t, alloc_new, hcs⟩, fun ho => ?_, fun o ho => ?_⟩
          · have := hr.h.lt ho; simp only at this; omega
          · have := hr.h.hi _ _ ho; simp only at this; omega
        · rename_i e
          simp only [if_neg e] at hk
          exact hr2.l k hk
      · simp only [upd] at hk hk' e
        have ltk : ∀ k, (L k).2 ≠ [] → (lb k).2 < w.heap.size := fun k hk => by
          obtain ⟨⟨vs, t, hb, _⟩, _⟩ := hr.l k hk
          exact (Array.getElem?_eq_some_iff.1 hb).1
        by_cases e1 : k = d <;> by_cases e2 : k' = d
        · rw [e1, e2]
        · simp only [e1, if_true, if_neg e2] at hk' e
          have := ltk k' hk'; omega
        · simp only [if_neg e1, e2, if_true] at hk e
          have := ltk k hk; omega
        · simp only [if_neg e1, if_neg e2] at hk hk' e
          exact hr.j k k' hk hk' e
    have := base.put (d := o.dst) (v := .lp d ((L d).1 + 1) 0) (cv := .pointer (some ⟨w.heap.size, 0, none⟩)) (by rw [hd]; rintro x ⟨⟩; exact hN) (by
      simp only [RF]
      refine ⟨w.heap.size, rfl, fun _ => by simp [upd], by simp [upd, hr.u]⟩)
    rw [hd] at this ⊢
    exact this
  · intro k hk
    simp only [upd] at hk ⊢
    split
    · exact hs.size
    · rename_i e
      simp only [if_neg e] at hk
      exact hf k hk

/-- a block that is owned whole. -/
theorem r_boxh {d n : Nat} {x : X} {t : TypeId} {cv : Value} (hd : o.dst = some d) (hN : d < N) (he : ∀ w : World, (execOp a.eval o).run P w = .ok (.value (.pointer (some ⟨w.heap.size, 0, none⟩))) (w.alloc (.cells cv.cells t)))
    (h : Ok N En T L s a w) (hx : ∀ (I : Nat → Nat → Prop) (lb : Nat → Nat × Nat), Rel N I s T L lb a w → RF I w lb (x.ev T) cv) (hw : wpR P (.boxh d n x) K T L s) : o.wp P a w (Nx N En K) Q := by
  obtain ⟨I, lb, hr, hs, hf⟩ := h
  simp only [wpR] at hw
  obtain ⟨hsol, hlen, hk⟩ := hw
  have hx := hx I lb hr
  have hnc : s.c w.heap.size = none := by
    cases hc : s.c w.heap.size with
    | none => rfl
    | some cs => have := hr.h.lt_c hc; omega
  have hnf : s.f w.heap.size = none := by
    cases hc : s.f w.heap.size with
    | none => rfl
    | some cs => have := hr.h.lt_f hc; omega
  have hal : Sin I s w I s (w.alloc (.cells cv.cells t)) := Sin.alloc hr.h (fun _ _ h => h) (fun _ _ h => .inl h)
  have hh : RelH I s (w.alloc (.cells cv.cells t)) := hr.h.alloc (fun _ _ h => h) (fun _ _ h => .inl h)
  have hcs := RVs.keeps hal.keeps _ _ (cells_rel hsol hx)
  have hh2 : RelH I { s with c := upd s.c w.heap.size (some (cellsOf (x.ev T))) } (w.alloc (.cells cv.cells t)) :=
    hh.own alloc_new ⟨by rw [hcs.length]; exact Nat.le_refl _, by rw [hcs.length, List.take_length]; exact hcs⟩ (fun o ho => by have := hr.h.hi _ _ ho; omega) hnf
  have hs2 : Sin I s w I { s with c := upd s.c w.heap.size (some (cellsOf (x.ev T))) } (w.alloc (.cells cv.cells t)) :=
    ⟨hal.size, hal.keeps, hal.new, fun b hb => by
      rcases hb with hb | hb
      · simp only [upd] at hb
        split at hb
        · exact .inr (by omega)
        · exact .inl (.inl hb)
      · exact .inl (.inr hb), hal.same, hal.os, hal.output, hal.tape⟩
  refine wp_value (he w) ⟨_, L, _, Ok.after (v := .ptr w.heap.size 0) hr hs hf hs2 hh2 (by rw [hd]; rintro x ⟨⟩; exact hN) (RF.of_rv (by simp only [RV])), ?_⟩
  rw [hd]
  exact hk w.heap.size hnc hnf


theorem one_rel : ∀ {v : V} {cv : Value} {I : Nat → Nat → Prop} {w : World}, one v = true → RV I w v cv → cv.oneCell' = true
  | .lp _ _ _, _, _, _, h, _ | .any, _, _, _, h, _ | .c _, _, _, _, h, _ | .agg _, _, _, _, h, _ | .tup _, _, _, _, h, _ => by simp [one] at h
  | .int _ _, _, _, _, _, h | .bool _, _, _, _, _, h | .str _, _, _, _, _, h | .ptr _ _, _, _, _, _, h | .nilp, _, _, _, _, h | .hs _ _ _ _, _, _, _, _, h | .nilfn, _, _, _, _, h | .nilif, _, _, _, _, h
  | .map _, _, _, _, _, h | .nilmap, _, _, _, _, h => by simp only [RV, mkStr] at h; subst h; rfl
  | .sl _ _ _ _, _, _, _, _, h => by simp only [RV] at h; obtain ⟨a, cap, rfl, _⟩ := h; rfl
  | .fn _ _ _, _, _, _, _, h => by simp only [RV] at h; obtain ⟨a, cap, rfl, _⟩ := h; rfl
  | .ifc _ _, _, _, _, _, h => by simp only [RV] at h; obtain ⟨a, rfl, _⟩ := h; rfl
  | .ip _ _, _, _, _, _, h => by simp only [RV] at h; obtain ⟨a, b, rfl, _⟩ := h; rfl

theorem ones_rel {vs : List V} {cs : List Value} {I : Nat → Nat → Prop} (h1 : ∀ v ∈ vs, one v = true) (h : RVs I w vs cs) : ∀ c ∈ cs, c.oneCell' = true := by
  intro c hc
  obtain ⟨i, hi, rfl⟩ := List.mem_iff_getElem.1 hc
  have hl := h.length
  have hv : vs[i]? = some vs[i] := List.getElem?_eq_getElem (by omega)
  obtain ⟨c', hc', hr⟩ := h.get hv
  rw [List.getElem?_eq_getElem hi] at hc'
  cases hc'
  exact one_rel (h1 _ (List.getElem_mem _)) hr

theorem run_storeAt {t ty : TypeId} {n b o : Nat} {cv : Value} {cur : Array Value} (hn : sizeOfT P t = some n) (hc : cv.cells.size = n) (hb : w.heap[b]? = some (.cells cur ty (0, 0))) (ho : o + n ≤ cur.size)
    (h1 : ∀ c ∈ cv.cells.toList, c.oneCell' = true) :
    (Instr.storeAt t (.pointer (some ⟨b, o, none⟩)) cv).run P w = .ok () (w.setRow b (cur.toList.take o ++ cv.cells.toList ++ cur.toList.drop (o + n)).toArray) := by
  have hs : ∀ x : Addr, Instr.sureAddr (.pointer (some x)) = pure x := fun _ => rfl
  have := run_storeCells_at (P := P) b o ty cv.cells.toList 0 cur w hb (by simp; omega) h1
  simp only [Nat.add_zero, Array.length_toList, hc] at this
  simp only [Instr.storeAt, Sem.run_bind, hs, Sem.run_pure, Result.andThen_ok, storeVar, run_size hn]
  rw [if_neg (by simp [hc])]
  exact this

theorem RVp.set {I : Nat → Nat → Prop} {cs vs : List V} {cur cells : List Value} {o : Nat} (h : RVp I w cs cur) (hv : RVs I w vs cells) (ho : o + vs.length ≤ cs.length) :
    RVp I w (setCells cs o vs) (cur.take o ++ cells ++ cur.drop (o + vs.length)) := by
  obtain ⟨hl, hr⟩ := h
  have hvl := hv.length
  have hlen : (setCells cs o vs).length = cs.length := by simp [setCells]; omega
  refine ⟨by rw [hlen]; simp; omega, ?_⟩
  rw [hlen]
  have e : (cur.take o ++ cells ++ cur.drop (o + vs.length)).take cs.length = (cur.take cs.length).take o ++ cells ++ (cur.take cs.length).drop (o + vs.length) := by
    apply List.ext_getElem?
    intro i
    simp only [List.getElem?_take, List.getElem?_append, List.getElem?_drop, List.length_append, List.length_take]
    by_cases h1 : i < cs.length
    · rw [if_pos h1]
      by_cases h2 : i < o
      · have : i < min o cur.length + cells.length := by omega
        have h3 : i < min o (min cs.length cur.length) + cells.length := by omega
        have h4 : i < min o cur.length := by omega
        have h5 : i < min o (min cs.length cur.length) := by omega
        simp [this, h2, h3, h4, h5, h1]
      · by_cases h3 : i < o + cells.length
        · have q1 : i < min o cur.length + cells.length := by omega
          have q2 : i < min o (min cs.length cur.length) + cells.length := by omega
          have q3 : ¬ i < min o cur.length := by omega
          have q4 : ¬ i < min o (min cs.length cur.length) := by omega
          simp [q1, q2, q3, q4]
          congr 1; omega
        · have q1 : ¬ i < min o cur.length + cells.length := by omega
          have q2 : ¬ i < min o (min cs.length cur.length) + cells.length := by omega
          have q3 : o + vs.length + (i - (min o (min cs.length cur.length) + cells.length)) < cs.length := by omega
          simp [q1, q2, q3]
          congr 1; omega
    · rw [if_neg h1]
      have q1 : ¬ i < min o (min cs.length cur.length) + cells.length := by omega
      have q3 : ¬ o + vs.length + (i - (min o (min cs.length cur.length) + cells.length)) < cs.length := by omega
      simp [q1, q3]
  rw [e]
  exact ((hr.take o).append hv).append (hr.drop (o + vs.length))

/-- a store into a block that is owned whole. -/
theorem heap_set {I : Nat → Nat → Prop} {b : Nat} {cs cs' : List V} {cur cur' : Array Value} {ty : TypeId} (h : RelH I s w) (hc : s.c b = some cs) (hb : w.heap[b]? = some (.cells cur ty (0, 0)))
    (hp : RVp I w cs' cur'.toList) : RelH I { s with c := upd s.c b (some cs') } (w.setRow b cur') ∧ Sin I s w I { s with c := upd s.c b (some cs') } (w.setRow b cur') := by
  have hnI := (h.hc b cs hc).2
  have hk : Keeps I w I (w.setRow b cur') := ⟨fun _ _ h => h, fun b' o hi => by
    have : b' ≠ b := fun e => hnI o (e ▸ hi)
    simp only [World.cell?, setRow_other w b b' cur' this]⟩
  constructor
  · refine ⟨fun b' cs'' hb' => ?_, fun b' n m hb' => ?_, fun x hx => RVm.keeps hk _ _ _ (h.hg x hx), fun b' o hi => by rw [setRow_size]; exact h.hi b' o hi, h.yes hk (fun b' hb' => setRow_other w b b' cur' (fun e => h.y_c (e ▸ hb') hb)) (fun _ _ _ h => h)⟩
    · simp only [upd] at hb'
      split at hb'
      · rename_i e; subst e; cases hb'
        exact ⟨⟨cur', ty, setRow_heap w b' cur cur' ty _ hb, hp.keeps hk⟩, hnI⟩
      · rename_i e
        obtain ⟨⟨vs, t, h1, h2⟩, h3⟩ := h.hc b' cs'' hb'
        exact ⟨⟨vs, t, by rw [setRow_other w b b' cur' e]; exact h1, h2.keeps hk⟩, h3⟩
    · obtain ⟨h0, vs, t, h1, h2⟩ := h.hf b' n m hb'
      have hne : b' ≠ b := fun e => by rw [e, hc] at h0; cases h0
      exact ⟨by simp only [upd, if_neg hne]; exact h0, vs, t, by rw [setRow_other w b b' cur' hne]; exact h1, h2⟩
  · refine ⟨by rw [setRow_size]; exact Nat.le_refl _, hk, fun _ _ h => .inl h, fun b' hb' => ?_, fun b' hb' hl => ?_, rfl, rfl, rfl⟩
    · rcases hb' with hb' | hb'
      · simp only [upd] at hb'
        split at hb'
        · rename_i e; exact .inl (.inl (by rw [e, hc]; simp))
        · exact .inl (.inl hb')
      · exact .inl (.inr hb')
    · have : b' ≠ b := fun e => hb' (.inl (by rw [e, hc]; simp))
      exact setRow_other w b b' cur' this

theorem run_skip {x : Sem Unit} {y : Sem Next} {w' : World} (h : x.run P w = .ok () w') (he : y = (do x; pure .skip)) : y.run P w = .ok .skip w' := by rw [he]; simp [h]

theorem Sin.fresh {I0 I : Nat → Nat → Prop} {s0 s : H} {w0 w w' : World} {bk : Nat} (hs : Sin I0 s0 w0 I s w) (hb : w0.heap.size ≤ bk) (hk : Keeps I w I w') (hz : w'.heap.size = w.heap.size)
    (ho : ∀ b', b' ≠ bk → w'.heap[b']? = w.heap[b']?) (h1 : w'.os = w.os) (h2 : w'.output = w.output) (h3 : w'.tape = w.tape) : Sin I0 s0 w0 I s w' where
  size := by rw [hz]; exact hs.size
  keeps := hs.keeps.trans hk
  new := hs.new
  own := hs.own
  same b' hb' hl := by rw [ho b' (by omega), hs.same b' hb' hl]
  os := h1.trans hs.os
  output := h2.trans hs.output
  tape := h3.trans hs.tape

/-- a store. -/
theorem r_st {loc : Bool} {t : TypeId} {n : Nat} {ad x : Operand} {ad' x' : X} (ho : o.op = .store t ad x) (hd : o.dst = none) (hn : sizeOfT P t = some n) (ha : cX ad = some ad') (hx : cX x = some x')
    (h : Ok N En T L s a w) (hw : wpR P (.st loc ad' x' n) K T L s) : o.wp P a w (Nx N En K) Q := by
  obtain ⟨I, lb, hr, hs, hf⟩ := h
  simp only [wpR] at hw
  obtain ⟨hsol, hlen, hone, hw⟩ := hw
  have h1 := cX_sound ha hr.t
  have h2 := cX_sound hx hr.t
  have hcr := cells_rel hsol h2
  have hcl : (a.eval x).cells.size = n := by rw [cells_single hsol h2, hlen]
  have hones := ones_rel hone hcr
  have he : execOp a.eval o = (do Instr.storeAt t (a.eval ad) (a.eval x); pure .skip) := by
    obtain ⟨dst, op, ty, pos, after, guard⟩ := o
    simp only at ho; subst ho; rfl
  have hput : a.put o.dst undef = a := by rw [hd]; rfl
  split at hw
  · -- a box of the frame
    rename_i k u o' e
    obtain ⟨hu, hle, hk⟩ := hw
    rw [e] at h1
    simp only [RF] at h1
    obtain ⟨b, hb, hbu, _⟩ := h1
    obtain rfl := hbu (by rw [hr.u, hu])
    by_cases hne : (L k).2 = []
    · -- nothing is stored
      have hn0 : n = 0 := by rw [hne] at hle; simp at hle; omega
      subst hn0
      have hcells : (a.eval x).cells.toList = [] := by
        have : (a.eval x).cells.toList.length = 0 := by simpa using hcl
        exact List.eq_nil_of_length_eq_zero this
      have hrun : (Instr.storeAt t (a.eval ad) (a.eval x)).run P w = .ok () w := by
        have hs : ∀ x : Addr, Instr.sureAddr (.pointer (some x)) = pure x := fun _ => rfl
        rw [hb]
        simp only [Instr.storeAt, Sem.run_bind, hs, Sem.run_pure, Result.andThen_ok, storeVar, run_size hn]
        rw [if_neg (by simp [hcl]), hcells]
        rfl
      have hvs : cellsOf (x'.ev T) = [] := List.eq_nil_of_length_eq_zero (by simpa using hlen)
      have hLk : upd L k (u, setCells (L k).2 o' (cellsOf (x'.ev T))) = L := by
        funext i
        simp only [upd]
        split
        · rename_i e; subst e; rw [hvs]; simp [setCells, hne, ← hu]
          exact Prod.ext rfl hne.symm
        · rfl
      rw [hLk] at hk
      refine wp_skip' (run_skip hrun he) ?_
      rw [hput]
      exact ⟨T, L, s, ⟨I, lb, hr, hs, hf⟩, hk⟩
    · obtain ⟨⟨cur, ty, hbk, hcs⟩, hno, hnI⟩ := hr.l k hne
      have hcsl := hcs.length
      simp only [Array.length_toList] at hcsl
      have hrun := run_storeAt (w := w) (b := (lb k).2) (o := o') hn hcl hbk (by omega) hones
      refine wp_skip' (run_skip (hb ▸ hrun) he) ?_
      rw [hput]
      have hkp : Keeps I w I (w.setRow (lb k).2 (cur.toList.take o' ++ (a.eval x).cells.toList ++ cur.toList.drop (o' + n)).toArray) := ⟨fun _ _ h => h, fun b' o hi => by
        have : b' ≠ (lb k).2 := fun e => hnI o (e ▸ hi)
        simp only [World.cell?, setRow_other w (lb k).2 b' _ this]⟩
      have hlt : (lb k).2 < w.heap.size := (Array.getElem?_eq_some_iff.1 hbk).1
      refine ⟨T, _, s, ⟨I, lb, ?_, ?_, ?_⟩, hk⟩
      · refine ⟨?_, fun i => RF.keeps hkp (hr.t i), hr.n, hr.d.world (fun D _ hD => by
          rw [setRow_other w (lb k).2 D _ (fun e => by rw [e, hbk] at hD; cases hD)]; exact hD) (fun _ _ h => h) (fun _ _ _ _ h => h), fun k' => ?_, fun k' hk' => ?_, fun k' k'' h1 h2 e => ?_⟩
        · refine ⟨fun b' cs'' hb' => ?_, fun b' n' m' hb' => ?_, fun x hx => RVm.keeps hkp _ _ _ (hr.h.hg x hx), fun b' o hi => by rw [setRow_size]; exact hr.h.hi b' o hi, hr.h.yes hkp (fun b' hb' => setRow_other w (lb k).2 b' _ (fun e => hr.h.y_c (e ▸ hb') hbk)) (fun _ _ _ h => h)⟩
          · obtain ⟨⟨vs, t, q1, q2⟩, q3⟩ := hr.h.hc b' cs'' hb'
            have hne' : b' ≠ (lb k).2 := fun e => hno (.inl (by rw [← e, hb']; simp))
            exact ⟨⟨vs, t, by rw [setRow_other w _ b' _ hne']; exact q1, q2.keeps hkp⟩, q3⟩
          · obtain ⟨q0, vs, t, q1, q2⟩ := hr.h.hf b' n' m' hb'
            have hne' : b' ≠ (lb k).2 := fun e => hno (.inr (.inl (by rw [← e, hb']; simp)))
            exact ⟨q0, vs, t, by rw [setRow_other w _ b' _ hne']; exact q1, q2⟩
        · simp only [upd]; split
          · rename_i e; subst e; rw [hr.u, hu]
          · exact hr.u k'
        · simp only [upd] at hk' ⊢
          split
          · rename_i e; subst e
            refine ⟨⟨_, ty, setRow_heap w _ cur _ ty _ hbk, ?_⟩, hno, hnI⟩
            have := RVp.set (cs := (L k').2) (o := o') (vs := cellsOf (x'.ev T)) (cells := (a.eval x).cells.toList) (cur := cur.toList) ⟨by simp; omega, by rw [hcsl, ← Array.length_toList, List.take_length]; exact hcs⟩ hcr (by omega)
            obtain ⟨q1, q2⟩ := this
            rw [hlen] at q2
            have hfull : (setCells (L k').2 o' (cellsOf (x'.ev T))).length = (cur.toList.take o' ++ (a.eval x).cells.toList ++ cur.toList.drop (o' + n)).length := by
              simp [setCells, hlen, hcl]; omega
            rw [hfull, List.take_length] at q2
            exact RVs.keeps hkp _ _ (by simpa using q2)
          · rename_i e
            simp only [if_neg e] at hk'
            obtain ⟨⟨vs, t, q1, q2⟩, q3, q4⟩ := hr.l k' hk'
            have hne' : (lb k').2 ≠ (lb k).2 := fun e' => e (hr.j k' k hk' hne e')
            exact ⟨⟨vs, t, by rw [setRow_other w _ _ _ hne']; exact q1, RVs.keeps hkp _ _ q2⟩, q3, q4⟩
        · have conv : ∀ q, (upd L k (u, setCells (L k).2 o' (cellsOf (x'.ev T))) q).2 ≠ [] → (L q).2 ≠ [] := by
            intro q hq
            simp only [upd] at hq
            split at hq
            · rename_i e; subst e; exact hne
            · exact hq
          exact hr.j k' k'' (conv _ h1) (conv _ h2) e
      · exact hs.fresh (hf k hne) hkp (by rw [setRow_size]) (fun b' hb' => setRow_other w _ b' _ hb') rfl rfl rfl
      · intro k' hk'
        simp only [upd] at hk'
        split at hk'
        · rename_i e; subst e; exact hf k' hne
        · exact hf k' hk'
  · -- a block that is owned
    rename_i b o' e
    obtain ⟨hloc, hw⟩ := hw
    split at hw
    · rename_i cs hcs
      obtain ⟨hle, hk⟩ := hw
      rw [e] at h1
      simp only [RF, RV] at h1
      obtain ⟨⟨cur, ty, hbk, hp⟩, hnI⟩ := hr.h.hc b cs hcs
      have hcur : cs.length ≤ cur.size := by simpa using hp.1
      have hrun := run_storeAt (w := w) (b := b) (o := o') hn hcl hbk (by omega) hones
      refine wp_skip' (run_skip (h1 ▸ hrun) he) ?_
      rw [hput]
      have hset := RVp.set (o := o') hp hcr (by omega)
      rw [hlen] at hset
      obtain ⟨q1, q2⟩ := heap_set (cur' := (cur.toList.take o' ++ (a.eval x).cells.toList ++ cur.toList.drop (o' + n)).toArray) hr.h hcs hbk (by simpa using hset)
      exact ⟨T, L, _, ⟨I, lb, hr.after q2 q1, hs.trans q2, hf⟩, hk⟩
    · exact hw.elim
  · exact hw.elim

end

end Go.VL

/-
  VlI: slices that are made: literals, make, append; strings to bytes.
-/
namespace Go.VL
open Go

theorem flat_get {α : Type} (z : List α) : ∀ (n i : Nat), ((List.replicate n z).flatten)[i]? = if i < n * z.length then z[i % z.length]? else none
  | 0, i => by simp
  | n + 1, i => by
    rw [List.replicate_succ, List.flatten_cons, List.getElem?_append]
    by_cases h : i < z.length
    · have : i < (n + 1) * z.length := by rw [Nat.add_mul]; omega
      rw [if_pos h, if_pos this, Nat.mod_eq_of_lt h]
    · rw [if_neg h, flat_get z n]
      have e : (i - z.length) % z.length = i % z.length := by
        conv => rhs; rw [show i = (i - z.length) + z.length by omega, Nat.add_mod_right]
      rw [e]
      by_cases h2 : i - z.length < n * z.length
      · rw [if_pos h2, if_pos (by rw [Nat.add_mul]; omega)]
      · rw [if_neg h2, if_neg (by rw [Nat.add_mul]; omega)]

theorem zeros_rel {I : Nat → Nat → Prop} {w : World} {z : List V} {zc : Array Value} (hz : RVs I w z zc.toList) (n : Nat) :
    RVs I w (List.replicate n z).flatten ((Array.range (n * zc.size)).map (zc[· % zc.size]!)).toList := by
  have hl := hz.length
  simp only [Array.length_toList] at hl
  refine RVs.of_get (by simp [hl]) fun i v c hv hc => ?_
  rw [flat_get] at hv
  split at hv
  · rename_i hlt
    obtain ⟨c', hc', hr⟩ := hz.get hv
    have hlt' : i < n * zc.size := by rw [← hl]; exact hlt
    simp only [Array.toList_map, Array.toList_range, List.getElem?_map, List.getElem?_range hlt', Option.map_some, Option.some.injEq] at hc
    subst hc
    have : zc[i % zc.size]! = c' := by
      have h2 : zc[i % zc.size]? = some c' := by rw [← hl]; simpa using hc'
      simp [getElem!_def, h2]
    rw [this]; exact hr
  · cases hv

theorem chunks_length (k : Nat) : ∀ (n : Nat) (cs : List V), (chunks k n cs).length = n
  | 0, _ => rfl
  | n + 1, cs => by simp [chunks, chunks_length k n]
theorem chunks_get (k : Nat) : ∀ (n i : Nat) (cs x : List V), (chunks k n cs)[i]? = some x → x = (cs.drop (i * k)).take k ∧ i < n
  | 0, i, cs, x, h => by simp [chunks] at h
  | n + 1, 0, cs, x, h => by simp [chunks] at h; subst h; simp
  | n + 1, i + 1, cs, x, h => by
    simp only [chunks, List.getElem?_cons_succ] at h
    obtain ⟨h1, h2⟩ := chunks_get k n i _ x h
    refine ⟨?_, by omega⟩
    rw [h1, List.drop_drop, Nat.add_mul, Nat.one_mul, Nat.add_comm k]

section
variable {P : Program} {N : Fr} {En : Entry} {s : H} {T : Nat → V} {L : Nat → Nat × List V} {a : Act} {w : World} {K : Post} {Q : Exit → Act → World → Prop} {lps : List Nat} {o : Oper}

/-- the cells of a new block that nobody writes. -/
theorem new_mem {I : Nat → Nat → Prop} {cs : List V} {cells : Array Value} {e : TypeId} {w0 : World} (hi : ∀ b o, I b o → b < w0.heap.size) (h : RVs I w0 cs (cells.toList.take cs.length)) (_hl : cs.length ≤ cells.size) :
    RVm (fun b o => I b o ∨ (b = w0.heap.size ∧ o < cs.length)) (w0.alloc (.cells cells e)) w0.heap.size 0 cs := by
  have hk : Keeps I w0 (fun b o => I b o ∨ (b = w0.heap.size ∧ o < cs.length)) (w0.alloc (.cells cells e)) := .alloc hi fun _ _ h => .inl h
  refine RVm.of_get fun i v hv => ?_
  have hlt : i < cs.length := (List.getElem?_eq_some_iff.1 hv).1
  obtain ⟨c, hc, hr⟩ := h.get hv
  rw [List.getElem?_take, if_pos hlt] at hc
  refine ⟨.inr ⟨rfl, by omega⟩, c, ?_, RV.keeps hk _ _ hr⟩
  rw [Nat.zero_add, World.cell?_alloc_new]
  simpa using hc

theorem chunks_mem {I : Nat → Nat → Prop} {cs : List V} {b k n : Nat} (h : RVm I w b 0 cs) (hl : cs.length = n * k) : RVmm I w k b 0 (chunks k n cs) :=
  RVmm.of_get fun i x hx => by
    obtain ⟨rfl, hi⟩ := chunks_get k n i cs x hx
    have hle : (i + 1) * k ≤ n * k := Nat.mul_le_mul_right _ hi
    rw [Nat.add_mul] at hle
    refine ⟨by simp; omega, RVm.of_get fun j v hv => ?_⟩
    rw [List.getElem?_take] at hv
    split at hv
    · rw [List.getElem?_drop] at hv
      have := h.get hv
      rwa [show 0 + (i * k + j) = 0 + i * k + j by omega] at this
    · cases hv

theorem fillV_length : ∀ (qs : List (Nat × Nat × V)) (cs cs' : List V), fillV cs qs = some cs' → cs'.length = cs.length
  | [], cs, cs', h => by simp [fillV] at h; rw [h]
  | (off, n, v) :: r, cs, cs', h => by
    simp only [fillV] at h
    split at h
    · rename_i hok
      rw [fillV_length r _ _ h]
      simp [hok.2.1]; omega
    · cases h

/-- a slice literal. -/
theorem r_bsl {d n sz : Nat} {t e : TypeId} {parts : Array (Nat × Operand)} {ps : List (Nat × X)} {ie : TypeInfo} {z : Value} {zl : List V} (ho : o.op = .buildSlice t n parts) (hd : o.dst = some d) (hN : d < N)
    (hu : P.underlying t = some (.slice e)) (hie : P.info? e = some ie) (hz : ie.zero = some z) (hzl : cLeafs z.cells.toList = some zl) (hsz : ie.size = sz) (hzc : z.cells.size = sz)
    (hsmall : ¬ n * sz > 2 ^ 24) (hpos : ¬ n * sz = 0) (hps : cParts (fun i => some (i * sz, sz)) parts.toList = some (ps.map fun p => (p.1 * sz, sz, p.2)))
    (h : Ok N En T L s a w) (hw : wpR P (.bsl d n sz zl ps) K T L s) : o.wp P a w (Nx N En K) Q := by
  obtain ⟨I, lb, hr, hs, hf⟩ := h
  simp only [wpR] at hw
  split at hw
  · rename_i cs hcs
    obtain ⟨hzn, hn0, hk⟩ := hw
    subst hsz
    have hz0 := zeros_rel (cLeafs_sound hzl I w) n
    rw [hzc] at hz0
    have hq : (ps.map fun p => (p.1 * ie.size, ie.size, p.2)).map (fun p => (p.1, p.2.1, p.2.2.ev T)) = ps.map fun p => (p.1 * ie.size, ie.size, p.2.ev T) := by simp [Function.comp_def]
    have hb := cParts_rel hr.t hps
    rw [hq] at hb
    obtain ⟨cells, hfill, hrs⟩ := fill_rel (lb := lb) (place := fun i => some (i * ie.size, ie.size)) _ _ _ _ cs hz0 hb hcs
    have hlen : cs.length = n * ie.size := by rw [fillV_length _ _ _ hcs]; simp [hzn]
    have hcl : cells.size = cs.length := by have := hrs.length; simp at this; omega
    have hrun : (execOp a.eval o).run P w = .ok (.value (.slice (some ⟨w.heap.size, 0, none⟩) n n)) (w.alloc (.cells cells e)) := by
      obtain ⟨dst, op, ty, pos, after, guard⟩ := o
      simp only at ho; subst ho
      have := run_buildSlice (P := P) w t e n (parts.map fun (i, x) => (i, a.eval x)) cells ie z hu hie hz hsmall hpos (by rw [hzc]; simpa using hfill)
      simp only [execOp, Sem.run_bind, this, Result.andThen_ok, Sem.run_pure]
    have hI : ∀ b o, I b o → (fun b o => I b o ∨ (b = w.heap.size ∧ o < cs.length)) b o := fun _ _ h => .inl h
    have hn : ∀ b o, (fun b o => I b o ∨ (b = w.heap.size ∧ o < cs.length)) b o → I b o ∨ b = w.heap.size := fun _ _ h => h.imp id (·.1)
    have hm := new_mem (e := e) (w0 := w) hr.h.hi (cs := cs) (cells := cells) (by rw [← hcl, ← Array.length_toList, List.take_length]; exact hrs) (by omega)
    refine wp_value hrun ⟨_, L, s, Ok.after (v := .sl (chunks ie.size n cs) [] true none) hr hs hf (Sin.alloc hr.h hI hn) (hr.h.alloc hI hn) (by rw [hd]; rintro x ⟨⟩; exact hN) (RF.of_rv ?_), ?_⟩
    · simp only [RV]
      have hp : 0 < ie.size := by rcases Nat.eq_zero_or_pos ie.size with h | h; · simp [h] at hpos
                                  · exact h
      have : n ≤ n * ie.size := Nat.le_mul_of_pos_right _ hp
      refine ⟨some ⟨w.heap.size, 0, none⟩, n, by rw [chunks_length], by simp [chunks_length], fun _ => by simp [chunks_length], by unfold top; omega, by simp, by simp, fun _ => ⟨_, _, ie.size, rfl, chunks_mem hm hlen, by simp [RVmm]⟩⟩
    · rw [hd]; exact hk
  · exact hw.elim

/-- the capacity of a slice. -/
theorem r_capu {d : Nat} {x : Operand} {x' : X} {t : TypeId} {e : TypeId} (ho : o.op = .call { callee := .builtin .cap, args := #[x], argTypes := #[t] }) (hd : o.dst = some d) (hN : d < N)
    (hu : P.underlying t = some (.slice e)) (hx : cX x = some x') (h : Ok N En T L s a w) (hw : wpR P (.capu d x') K T L s) : o.wp P a w (Nx N En K) Q := by
  obtain ⟨I, lb, hr, hs, hf⟩ := h
  simp only [wpR] at hw
  have h1 := cX_sound hx hr.t
  split at hw
  · rename_i xs sp ex tk e1
    rw [e1] at h1
    simp only [RF, RV] at h1
    obtain ⟨ad, cap, ha, q1, q2, q3, _⟩ := h1
    have hrun : (execOp a.eval o).run P w = .ok (.value (.int .i64 cap)) w := by
      obtain ⟨dst, op, ty, pos, after, guard⟩ := o
      simp only at ho; subst ho
      simp [execOp, resolve, invoke, builtin, ha, Builtin.cap_, run_und hu, goInt]
    refine wp_value hrun ⟨_, L, s, ⟨I, lb, hr.put (d := o.dst) (v := .int .i64 cap) (by rw [hd]; rintro x ⟨⟩; exact hN) (RF.of_rv (by simp only [RV])), hs, hf⟩, ?_⟩
    rw [hd]
    exact hw cap q1 q3
  · exact hw.elim


theorem run_append_room' {t ty e e' : TypeId} {i : TypeInfo} (ht : P.underlying t = some (.slice e)) (hi : P.info? e = some i)
    (g sLen sCap : Nat) (cur : Array Value) (hg : w.heap[g]? = some (.cells cur e' (0, 0)))
    (a : Addr) (m c : Nat) (news : List Value) (hl : news.length = m * i.size) (hnews : ∀ j u, news[j]? = some u → w.cell? (a.add j) = some u) (h1 : ∀ u ∈ news, u.oneCell' = true)
    (hroom : sLen + m ≤ sCap) (hfit : sLen * i.size + news.length ≤ cur.size) :
    (Builtin.append_ #[t, t] ty #[.slice (some ⟨g, 0, none⟩) sLen sCap, .slice (some a) m c]).run P w =
      .ok (.slice (some ⟨g, 0, none⟩) (sLen + m) sCap) (w.setRow g (cur.toList.take (sLen * i.size) ++ news ++ cur.toList.drop (sLen * i.size + news.length)).toArray) := by
  have hf := run_firstCells_some (P := P) w i.size m a m c news hl hnews
  have hst := run_storeCells_at P g (sLen * i.size) e' news 0 cur w hg (by simpa using hfit) h1
  simp only [Nat.add_zero] at hst
  simp [Builtin.append_, run_underlying ht, sizeOf, typeInfo, hi, Builtin.lenOf, hroom, hf, Addr.add_lit, hst]

theorem grownCap_top (w : World) (need old : Nat) (e : TypeId) (h : need < top) : grownCap w need old e < top ∧ need ≤ grownCap w need old e := by
  have := grownCap_ge w need old e
  refine ⟨?_, this⟩
  unfold top at *
  unfold grownCap
  simp only [Question.cut]
  have : (w.tape w.drawn (Question.appendCap need old e)) % (2 ^ 63 - need) < 2 ^ 63 - need := Nat.mod_lt _ (by omega)
  omega

/-- append, of a slice: what it comes to. -/
theorem append_grow {I : Nat → Nat → Prop} {lb : Nat → Nat × Nat} {En : Entry} {sz : Nat} {cells : List Value} {xs ys : List (List V)} {e : TypeId} {cap : Nat} {rest : Array Value} (hr : Rel N I s T L lb a w) (hs : Sin En.I En.s En.w I s w)
    (hf : ∀ k, (L k).2 ≠ [] → En.w.heap.size ≤ (lb k).2) (hN : ∀ d, o.dst = some d → d < N) (hx : ∀ x ∈ xs, x.length = sz) (hy : ∀ y ∈ ys, y.length = sz)
    (hc : RVs I w (xs ++ ys).flatten cells) (hcap : xs.length + ys.length ≤ cap) (htop : cap < top) (hrest : rest.size = (cap - (xs.length + ys.length)) * sz) (f' : Nat → Option (Nat × Nat))
    (hf' : ∀ b, f' b = s.f b ∨ f' b = none) (_hpos : cap ≠ 0) :
    Ok N En (put T o.dst (.sl (xs ++ ys) [] false (some (w.heap.size, cap)))) L { s with f := upd f' w.heap.size (some ((xs.length + ys.length) * sz, cap * sz)) }
      (a.put o.dst (.slice (some ⟨w.heap.size, 0, none⟩) (xs.length + ys.length) cap)) (w.drew.alloc (.cells (cells.toArray ++ rest) e)) := by
  have hxy : ∀ x ∈ xs ++ ys, x.length = sz := fun x h => by
    rcases List.mem_append.1 h with h | h
    · exact hx x h
    · exact hy x h
  have hlen : (xs ++ ys).flatten.length = (xs.length + ys.length) * sz := by rw [flatten_len hxy, List.length_append]
  have hcl : cells.length = (xs.length + ys.length) * sz := by rw [← hc.length, hlen]
  have hd : w.drew.heap = w.heap := rfl
  have hr1 := hr.after (w' := w.drew) (I' := I) (s' := s) (.of_heap hd rfl rfl rfl) (hr.h.of_heap hd)
  have hI : ∀ b o, I b o → (fun b o => I b o ∨ (b = w.drew.heap.size ∧ o < (xs ++ ys).flatten.length)) b o := fun _ _ h => .inl h
  have hn : ∀ b o, (fun b o => I b o ∨ (b = w.drew.heap.size ∧ o < (xs ++ ys).flatten.length)) b o → I b o ∨ b = w.drew.heap.size := fun _ _ h => h.imp id (·.1)
  have hk1 : Keeps I w I w.drew := .of_heap hd I
  have hm := new_mem (e := e) (w0 := w.drew) hr1.h.hi (cs := (xs ++ ys).flatten) (cells := cells.toArray ++ rest)
    (by simp only [Array.toList_append]; rw [show (xs ++ ys).flatten.length = cells.length by omega, List.take_left]; exact RVs.keeps hk1 _ _ hc) (by rw [hlen]; simp only [Array.size_append, List.size_toArray, hcl]; omega)
  have hal := Sin.alloc (o := .cells (cells.toArray ++ rest) e) hr1.h hI hn
  have hha := hr1.h.alloc (o := .cells (cells.toArray ++ rest) e) hI hn
  have hnf : s.f w.heap.size = none := by
    cases hc : s.f w.heap.size with
    | none => rfl
    | some cs => have := hr.h.lt_f hc; omega
  have hnc : s.c w.heap.size = none := by
    cases hc : s.c w.heap.size with
    | none => rfl
    | some cs => have := hr.h.lt_c hc; omega
  have hh2 : RelH (fun b o => I b o ∨ (b = w.drew.heap.size ∧ o < (xs ++ ys).flatten.length)) { s with f := upd f' w.heap.size (some ((xs.length + ys.length) * sz, cap * sz)) } (w.drew.alloc (.cells (cells.toArray ++ rest) e)) := by
    refine ⟨hha.hc, fun b n m hb => ?_, hha.hg, hha.hi, hha.hy⟩
    simp only [upd] at hb
    split at hb
    · rename_i e'; subst e'
      cases hb
      refine ⟨hnc, cells.toArray ++ rest, e, alloc_new (w := w.drew), ?_, ?_, fun o ho hi => ?_⟩
      · simp only [Array.size_append, List.size_toArray, hcl, hrest, ← Nat.add_mul]
        exact Nat.mul_le_mul_right _ (by omega)
      · simp only [Array.size_append, List.size_toArray, hcl]; omega
      · rcases hi with hi | ⟨_, hi⟩
        · have := hr.h.hi _ _ hi; omega
        · omega
    · rcases hf' b with h | h
      · rw [h] at hb; exact hha.hf b n m hb
      · rw [h] at hb; cases hb
  have hs2 : Sin I s w.drew (fun b o => I b o ∨ (b = w.drew.heap.size ∧ o < (xs ++ ys).flatten.length)) { s with f := upd f' w.heap.size (some ((xs.length + ys.length) * sz, cap * sz)) } (w.drew.alloc (.cells (cells.toArray ++ rest) e)) :=
    ⟨hal.size, hal.keeps, hal.new, fun b hb => by
      rcases hb with hb | hb | hb
      · exact .inl (.inl hb)
      · simp only [upd] at hb
        split at hb
        · rename_i e'; exact .inr (by rw [e', hd]; exact Nat.le_refl _)
        · rcases hf' b with h | h
          · rw [h] at hb; exact .inl (.inr (.inl hb))
          · exact absurd h hb
      · exact .inl (.inr (.inr hb)), hal.same, hal.os, hal.output, hal.tape⟩
  have hs3 := (Sin.of_heap (I := I) (s := s) hd rfl rfl rfl).trans hs2
  refine Ok.after hr hs hf hs3 hh2 hN (RF.of_rv ?_)
  simp only [RV]
  refine ⟨some ⟨w.heap.size, 0, none⟩, cap, by rw [List.length_append], by simp; omega, by simp, htop, ?_, by simp, fun _ => ⟨w.heap.size, 0, sz, rfl, RVmm.of_flat hxy hm, by simp [RVmm]⟩⟩
  rintro b c ⟨⟩
  exact ⟨rfl, rfl⟩

/-- append, of a slice that is owned and has room. -/
theorem append_room {I : Nat → Nat → Prop} {lb : Nat → Nat × Nat} {En : Entry} {sz : Nat} {news : List Value} {xs ys : List (List V)} {e : TypeId} {b cap : Nat} {cur : Array Value} (hr : Rel N I s T L lb a w) (hs : Sin En.I En.s En.w I s w)
    (hf : ∀ k, (L k).2 ≠ [] → En.w.heap.size ≤ (lb k).2) (hN : ∀ d, o.dst = some d → d < N) (hx : ∀ x ∈ xs, x.length = sz) (hy : ∀ y ∈ ys, y.length = sz)
    (hxs : RVm I w b 0 xs.flatten) (hb : w.heap[b]? = some (.cells cur e (0, 0))) (hsf : s.f b = some (xs.length * sz, cap * sz))
    (hc : RVs I w ys.flatten news) (hcap : xs.length + ys.length ≤ cap) (htop : cap < top) (_hpos : cap ≠ 0) :
    Ok N En (put T o.dst (.sl (xs ++ ys) [] false (some (b, cap)))) L { s with f := upd (upd s.f b none) b (some ((xs.length + ys.length) * sz, cap * sz)) }
      (a.put o.dst (.slice (some ⟨b, 0, none⟩) (xs.length + ys.length) cap)) (w.setRow b (cur.toList.take (xs.length * sz) ++ news ++ cur.toList.drop (xs.length * sz + news.length)).toArray) := by
  have hxy : ∀ x ∈ xs ++ ys, x.length = sz := fun x h => by
    rcases List.mem_append.1 h with h | h
    · exact hx x h
    · exact hy x h
  obtain ⟨hnc, cur', e', hb', hm, hn, hnI⟩ := hr.h.hf b _ _ hsf
  rw [hb] at hb'
  cases hb'
  have hxl : xs.flatten.length = xs.length * sz := flatten_len hx
  have hyl : ys.flatten.length = ys.length * sz := flatten_len hy
  have hnl : news.length = ys.length * sz := by rw [← hc.length, hyl]
  have hfit : (xs.length + ys.length) * sz ≤ cur.size := Nat.le_trans (Nat.mul_le_mul_right _ hcap) hm
  rw [Nat.add_mul] at hfit
  generalize hcur' : (cur.toList.take (xs.length * sz) ++ news ++ cur.toList.drop (xs.length * sz + news.length)).toArray = cur'
  have hsz' : cur'.size = cur.size := by subst hcur'; simp; omega
  have hold : ∀ o, o < xs.length * sz → cur'[o]? = cur[o]? := fun o ho => by
    subst hcur'
    simp only [List.getElem?_toArray, List.append_assoc]
    rw [List.getElem?_append_left (by simp; omega), List.getElem?_take, if_pos ho]; simp
  have hnew : ∀ j, j < ys.length * sz → cur'[xs.length * sz + j]? = news[j]? := fun j hj => by
    subst hcur'
    simp only [List.getElem?_toArray, List.append_assoc]
    rw [List.getElem?_append_right (by simp; omega)]
    have : (cur.toList.take (xs.length * sz)).length = xs.length * sz := by simp; omega
    rw [this, show xs.length * sz + j - xs.length * sz = j by omega, List.getElem?_append_left (by omega)]
  have hbb : (w.setRow b cur').heap[b]? = some (.cells cur' e (0, 0)) := setRow_heap w b cur cur' e _ hb
  let I' : Nat → Nat → Prop := fun b' o => I b' o ∨ (b' = b ∧ o < (xs.length + ys.length) * sz)
  have hk : Keeps I w I' (w.setRow b cur') := ⟨fun _ _ h => .inl h, fun b' o hi => by
    by_cases h : b' = b
    · subst h
      have ho : o < xs.length * sz := Nat.lt_of_not_le fun h => hnI o h hi
      simp only [World.cell?, hbb, hb]
      simp [hold o ho]
    · simp only [World.cell?, setRow_other w b b' cur' h]⟩
  have hlt : b < w.heap.size := hr.h.lt_f hsf
  have hown : s.owned b := .inr (.inl (by rw [hsf]; simp))
  have hh : RelH I' { s with f := upd (upd s.f b none) b (some ((xs.length + ys.length) * sz, cap * sz)) } (w.setRow b cur') := by
    refine ⟨fun b' cs hc' => ?_, fun b' n m hb' => ?_, fun x hx => RVm.keeps hk _ _ _ (hr.h.hg x hx), fun b' o hi => ?_, hr.h.yes hk (fun b' hb' => setRow_other w b b' cur' (fun e => hr.h.y_c (e ▸ hb') hb)) (fun b' o hb' hi => by
      rcases hi with hi | ⟨e, _⟩
      · exact hi
      · exact absurd hb (hr.h.y_c (e ▸ hb')))⟩
    · obtain ⟨⟨vs, t, h1, h2⟩, h3⟩ := hr.h.hc b' cs hc'
      have hne : b' ≠ b := fun e => by rw [e, hnc] at hc'; cases hc'
      refine ⟨⟨vs, t, by rw [setRow_other w b b' cur' hne]; exact h1, h2.keeps hk⟩, fun o ho => ?_⟩
      rcases ho with ho | ⟨ho, _⟩
      · exact h3 o ho
      · exact hne ho
    · simp only [upd] at hb'
      split at hb'
      · rename_i e1; subst e1; cases hb'
        refine ⟨hnc, cur', e, hbb, by rw [hsz']; exact hm, by rw [hsz', Nat.add_mul]; exact hfit, fun o ho hi => ?_⟩
        rcases hi with hi | ⟨_, hi⟩
        · refine hnI o (Nat.le_trans (Nat.mul_le_mul_right _ (by omega)) ho) hi
        · omega
      · rename_i e1
        obtain ⟨h0, vs, t, h1, h2, h3, h4⟩ := hr.h.hf b' n m hb'
        refine ⟨h0, vs, t, by rw [setRow_other w b b' cur' e1]; exact h1, h2, h3, fun o ho hi => ?_⟩
        rcases hi with hi | ⟨hi, _⟩
        · exact h4 o ho hi
        · exact e1 hi
    · rw [setRow_size]
      rcases hi with hi | ⟨rfl, _⟩
      · exact hr.h.hi b' o hi
      · exact hlt
  have hsin : Sin I s w I' { s with f := upd (upd s.f b none) b (some ((xs.length + ys.length) * sz, cap * sz)) } (w.setRow b cur') := by
    refine ⟨by rw [setRow_size]; exact Nat.le_refl _, hk, fun b' o hi => ?_, fun b' hb' => ?_, fun b' hb' hl => ?_, rfl, rfl, rfl⟩
    · rcases hi with hi | ⟨rfl, _⟩
      · exact .inl hi
      · exact .inr (.inl hown)
    · rcases hb' with hb' | hb' | hb'
      · exact .inl (.inl hb')
      · simp only [upd] at hb'
        split at hb'
        · rename_i e1; rw [e1]; exact .inl hown
        · exact .inl (.inr (.inl hb'))
      · exact .inl (.inr (.inr hb'))
    · have hne : b' ≠ b := fun e => hb' (e ▸ hown)
      exact setRow_other w b b' cur' hne
  refine Ok.after hr hs hf hsin hh hN (RF.of_rv ?_)
  have hmem : RVm I' (w.setRow b cur') b 0 (xs ++ ys).flatten := by
    refine RVm.of_get fun i v hv => ?_
    simp only [List.flatten_append] at hv
    rw [List.getElem?_append] at hv
    split at hv
    · rename_i hi
      obtain ⟨q1, c, q2, q3⟩ := hxs.get hv
      exact ⟨.inl q1, c, (hk.2 _ _ q1).trans q2, RV.keeps hk _ _ q3⟩
    · rename_i hi
      have hi2 : i - xs.flatten.length < ys.flatten.length := (List.getElem?_eq_some_iff.1 hv).1
      obtain ⟨c, q1, q2⟩ := hc.get hv
      refine ⟨.inr ⟨rfl, by rw [Nat.add_mul]; omega⟩, c, ?_, RV.keeps hk _ _ q2⟩
      have := hnew (i - xs.flatten.length) (by omega)
      rw [q1, show xs.length * sz + (i - xs.flatten.length) = i by omega] at this
      simp only [World.cell?, hbb, Nat.zero_add]
      simpa using this
  simp only [RV]
  refine ⟨some ⟨b, 0, none⟩, cap, by rw [List.length_append], by simp; omega, by simp, htop, ?_, by simp, fun _ => ⟨b, 0, sz, rfl, RVmm.of_flat hxy hmem, by simp [RVmm]⟩⟩
  rintro b c ⟨⟩
  exact ⟨rfl, rfl⟩


theorem run_append_none {t ty e : TypeId} {i : TypeInfo} (ht : P.underlying t = some (.slice e)) (hi : P.info? e = some i) (ad ad' : Option Addr) (n cap cap' : Nat) (h : n ≤ cap) :
    (Builtin.append_ #[t, t] ty #[.slice ad n cap, .slice ad' 0 cap']).run P w = .ok (.slice ad n cap) w := by
  cases ad <;> cases ad' <;> simp [Builtin.append_, run_underlying ht, sizeOf, typeInfo, hi, Builtin.lenOf, h, Builtin.firstCells, loadCells, loadCellsFrom, storeCells]

theorem zeroCells_size (z : Array Value) (n : Nat) : (Builtin.zeroCells z n).size = n * z.size := by simp [Builtin.zeroCells]

/-- append, of a slice. -/
theorem r_app {d sz : Nat} {x y : Operand} {x' y' : X} {t e : TypeId} {i : TypeInfo} {z : Value} (ho : o.op = .call { callee := .builtin .append, args := #[x, y], argTypes := #[t, t] }) (hd : o.dst = some d) (hN : d < N)
    (ht : P.underlying t = some (.slice e)) (hi : P.info? e = some i) (hz : i.zero = some z) (hsz : i.size = sz) (hzs : z.cells.size = sz) (hby : i.bytes ≤ 1024)
    (hx : cX x = some x') (hy : cX y = some y') (h : Ok N En T L s a w) (hw : wpR P (.app d sz x' y') K T L s) : o.wp P a w (Nx N En K) Q := by
  obtain ⟨I, lb, hr, hs, hf⟩ := h
  have hN' : ∀ d, o.dst = some d → d < N := by rw [hd]; rintro _ ⟨⟩; exact hN
  have h1 := cX_sound hx hr.t
  have h2 := cX_sound hy hr.t
  simp only [wpR] at hw
  split at hw
  · rename_i xs sp ex tk ys e1 e2
    have e3 : ∃ sp' ex' tk', y'.ev T = .sl ys sp' ex' tk' := by
      unfold elems at e2
      split at e2
      · cases e2; exact ⟨_, _, _, by assumption⟩
      · cases e2
    obtain ⟨sp', ex', tk', e3⟩ := e3
    rw [e1] at h1; rw [e3] at h2
    obtain ⟨hyl, hxl, hw1, hw2⟩ := hw
    obtain ⟨ad, cap, vs, ha, v1, v2, v3, v4, v5, v6, v7, v8⟩ := sl_cells (sz := sz) (by simpa only [RF] using h1) hxl
    obtain ⟨ad', cap', us, ha', u1, u2, u3, u4, u5, u6, u7, u8⟩ := sl_cells (sz := sz) (by simpa only [RF] using h2) (fun y hy => (hyl y hy).1)
    have he : execOp a.eval o = (do pure (.value (← Builtin.append_ #[t, t] o.type #[a.eval x, a.eval y]))) := by
      obtain ⟨dst, op, ty, pos, after, guard⟩ := o
      simp only at ho; subst ho
      simp [execOp, resolve, invoke, builtin]
    have run : ∀ {v : Value} {w' : World}, (Builtin.append_ #[t, t] o.type #[a.eval x, a.eval y]).run P w = .ok v w' → (execOp a.eval o).run P w = .ok (.value v) w' := fun h => by
      rw [he]; simp [h]
    have ones : ∀ u ∈ us, u.oneCell' = true := ones_rel (I := I) (w := w) (vs := ys.flatten) (fun v hv => by
      obtain ⟨y, hy, hv⟩ := List.mem_flatten.1 hv
      exact (hyl y hy).2 v hv) u1
    rw [ha, ha'] at run
    by_cases hys : ys = []
    · subst hys
      have hr0 := run_append_none (P := P) (w := w) (ty := o.type) ht hi ad ad' xs.length cap cap' v5
      refine wp_value (run (by simpa using hr0)) ⟨_, L, s, ⟨I, lb, hr.put (d := o.dst) hN' (v := .sl xs sp ex tk) (cv := .slice ad xs.length cap) (by rw [← ha]; exact h1), hs, hf⟩, ?_⟩
      rw [hd]
      exact hw1 rfl
    · obtain ⟨hroom, hw2⟩ := hw2 hys
      obtain ⟨b', o', rfl⟩ := u3 hys
      have hypos : 0 < ys.length := List.length_pos_iff.2 hys
      have hcl : vs.length + us.length = (xs.length + ys.length) * sz := by rw [v2, u2, Nat.add_mul]
      have hcells : RVs I w (xs ++ ys).flatten (vs ++ us) := by rw [List.flatten_append]; exact v1.append u1
      have hneed : (xs.length + ys.length) * i.bytes ≤ 140737488355328 := Nat.le_trans (Nat.mul_le_mul_left _ hby) hroom
      have htop : xs.length + ys.length < top := by unfold top; omega
      have fresh_c : s.c w.heap.size = none := by
        cases hc : s.c w.heap.size with
        | none => rfl
        | some cs => have := hr.h.lt_c hc; omega
      have fresh_f : s.f w.heap.size = none := by
        cases hc : s.f w.heap.size with
        | none => rfl
        | some cs => have := hr.h.lt_f hc; omega
      -- a new block
      have grow : cap < xs.length + ys.length → ∀ f' : Nat → Option (Nat × Nat), (∀ b, f' b = s.f b ∨ f' b = none) →
          ∃ cv w' c', (execOp a.eval o).run P w = .ok (.value cv) w' ∧
            Ok N En (put T o.dst (.sl (xs ++ ys) [] false (some (w.heap.size, c')))) L { s with f := upd f' w.heap.size (some ((xs.length + ys.length) * sz, c' * sz)) } (a.put o.dst cv) w' := by
        intro hlt f' hf'
        have hg := grownCap_top w (xs.length + ys.length) cap e htop
        have hrest : (Builtin.zeroCells z.cells (grownCap w (xs.length + ys.length) cap e - (xs.length + ys.length))).size = (grownCap w (xs.length + ys.length) cap e - (xs.length + ys.length)) * sz := by rw [zeroCells_size, hzs]
        have fin := append_grow (o := o) (e := e) (rest := Builtin.zeroCells z.cells (grownCap w (xs.length + ys.length) cap e - (xs.length + ys.length))) hr hs hf hN' hxl (fun y hy => (hyl y hy).1) hcells hg.2 hg.1 hrest f' hf' (by omega)
        refine ⟨_, _, _, run ?_, fin⟩
        cases ad with
        | none =>
          have hx0 : xs = [] := by
            cases xs with
            | nil => rfl
            | cons x xs => obtain ⟨b, o, h⟩ := v3 (by simp); cases h
          subst hx0
          simp only [RF, RV] at h1
          obtain ⟨ad0, cap0, q0, q1, q2, q3, q4, q5, q6⟩ := h1
          rw [ha] at q0
          cases q0
          have hc0 : cap = 0 := q5 rfl
          subst hc0
          have hvs : vs = [] := List.eq_nil_of_length_eq_zero (by simpa using v2)
          subst hvs
          have := run_append_nil (P := P) w t o.type e i z ht hi hz ⟨b', o', none⟩ ys.length cap' us (by rw [u2, hsz]) (u4 _ rfl) hypos (by unfold top at htop; simp at htop; omega) (by simp at hneed; omega)
          simpa using this
        | some ad =>
          have := run_append_grow (P := P) w t o.type e i z ht hi hz ad xs.length cap vs (by rw [v2, hsz]) (v4 _ rfl) ⟨b', o', none⟩ ys.length cap' us (by rw [u2, hsz]) (u4 _ rfl) hlt (by unfold top at htop; omega)
            (growslice_fits hlt hneed)
          simpa using this
      rcases hw2 with ⟨hsp, hex, hk⟩ | ⟨b, c, rfl, hsp, hex, hsf, hk⟩
      · have hcap : cap = xs.length := by rw [v7 hex, hsp]; simp
        obtain ⟨cv, w', c', q1, q2⟩ := grow (by omega) s.f (fun b => .inl rfl)
        refine wp_value q1 ⟨_, L, _, q2, ?_⟩
        rw [hd]
        exact hk _ c' fresh_c fresh_f
      · obtain ⟨rfl, rfl⟩ := v8 b c rfl
        by_cases hrm : xs.length + ys.length ≤ cap
        · obtain ⟨hnc, cur, e', hb, hm, hn, hnI⟩ := hr.h.hf b _ _ hsf
          -- the block's own cells
          have hmem : RVm I w b 0 xs.flatten := by
            simp only [RF, RV] at h1
            obtain ⟨ad0, cap0, q0, q1, q2, q3, q4, q5, q6⟩ := h1
            rw [ha] at q0
            cases q0
            by_cases hx0 : xs = []
            · subst hx0; simp [RVm]
            · have : 0 < xs.length := List.length_pos_iff.2 hx0
              obtain ⟨b2, o2, k2, e2, m1, m2⟩ := q6 (by omega)
              cases e2
              exact m1.flat
          have hfit : xs.length * sz + us.length ≤ cur.size := by
            rw [u2, ← Nat.add_mul]; exact Nat.le_trans (Nat.mul_le_mul_right _ hrm) hm
          have hrun := run_append_room' (P := P) (w := w) (ty := o.type) (e' := e') ht hi b xs.length cap cur hb ⟨b', o', none⟩ ys.length cap' us (by rw [u2, hsz]) (u4 _ rfl) ones hrm (by rw [hsz]; exact hfit)
          rw [hsz] at hrun
          have fin := append_room (o := o) (e := e') hr hs hf hN' hxl (fun y hy => (hyl y hy).1) hmem hb hsf u1 hrm v6 (by omega)
          refine wp_value (run hrun) ⟨_, L, _, fin, ?_⟩
          rw [hd]
          exact hk b cap (.inl ⟨rfl, rfl⟩)
        · obtain ⟨cv, w', c', q1, q2⟩ := grow (by omega) (upd s.f b none) (fun b' => by simp only [upd]; split; exact .inr rfl; exact .inl rfl)
          refine wp_value q1 ⟨_, L, _, q2, ?_⟩
          rw [hd]
          exact hk _ c' (.inr ⟨fresh_c, fresh_f⟩)
  · exact hw.elim


theorem run_mksl {t e : TypeId} {i : TypeInfo} {z : Value} {k : IntKind} {m : Int} (ht : P.underlying t = some (.slice e)) (hi : P.info? e = some i) (hz : i.zero = some z) (hby : i.bytes ≤ 1024) (h0 : 0 ≤ m)
    (hm : m.toNat * 1024 ≤ 140737488355328) :
    ∃ cells : Array Value, cells.size = m.toNat * i.size ∧ (Instr.makeSlice t (.int .i64 0) (.int k m)).run P w = .ok (.slice (some ⟨w.heap.size, 0, none⟩) 0 m.toNat) (w.alloc (.cells cells e)) := by
  have hw : IntKind.i64.wrap m = m := by
    have : (0 : Int) ≤ m ∧ m < 9223372036854775808 := by omega
    simp only [IntKind.wrap, IntKind.signed, IntKind.bits]
    simp
    omega
  have hw0 : IntKind.i64.wrap 0 = 0 := by decide
  have hle : ((i.bytes : Nat) : Int) * m ≤ 281474976710656 := by
    have h1 : ((i.bytes : Nat) : Int) * m ≤ 1024 * m := Int.mul_le_mul_of_nonneg_right (by omega) h0
    omega
  refine ⟨(Array.range (m.toNat * i.size)).map ((if m.toNat * i.size = 0 then (#[] : Array Value) else z.cells)[· % (if m.toNat * i.size = 0 then (#[] : Array Value) else z.cells).size]!), by simp, ?_⟩
  simp only [Instr.makeSlice, asInt, asIntOf, Sem.run_bind, run_und ht, run_info hi, Result.andThen_ok, Sem.run_pure, hw, hw0, sizeOf]
  rw [if_neg (by simp; omega)]
  simp only [Sem.run_bind, run_askRoom, Result.andThen_ok, Sem.run_ite, Sem.run_pure, zeroValue, run_info hi, hz, newRow, run_newObj]
  by_cases hn : m.toNat * i.size = 0
  · simp only [if_pos hn]
    rfl
  · simp only [if_neg hn]
    rfl

/-- make, of nothing, with room. -/
theorem r_mksl {d sz : Nat} {x : Operand} {x' : X} {t e : TypeId} {i : TypeInfo} {z : Value} (ho : o.op = .makeSlice t (.const (.int .i64 0)) x) (hd : o.dst = some d) (hN : d < N)
    (ht : P.underlying t = some (.slice e)) (hi : P.info? e = some i) (hz : i.zero = some z) (hsz : i.size = sz) (hby : i.bytes ≤ 1024)
    (hx : cX x = some x') (h : Ok N En T L s a w) (hw : wpR P (.mksl d sz x') K T L s) : o.wp P a w (Nx N En K) Q := by
  obtain ⟨I, lb, hr, hs, hf⟩ := h
  have h1 := cX_sound hx hr.t
  simp only [wpR] at hw
  split at hw
  · rename_i n hn
    obtain ⟨hroom, hk⟩ := hw
    obtain ⟨k, m, he, h0, rfl⟩ := natOf_spec hn
    rw [he] at h1
    simp only [RF, RV] at h1
    obtain ⟨cells, hc, hrun⟩ := run_mksl (P := P) (w := w) (k := k) ht hi hz hby h0 hroom
    have hrun' : (execOp a.eval o).run P w = .ok (.value (.slice (some ⟨w.heap.size, 0, none⟩) 0 m.toNat)) (w.alloc (.cells cells e)) := by
      obtain ⟨dst, op, ty, pos, after, guard⟩ := o
      simp only at ho; subst ho
      have hx1 : a.eval x = .int k m := h1
      have e : execOp a.eval { dst := dst, op := Op.makeSlice t (.const (.int .i64 0)) x, type := ty, pos := pos, after := after, guard := guard } = (do pure (.value (← Instr.makeSlice t (.int .i64 0) (a.eval x)))) := rfl
      rw [e, hx1]
      simp only [Sem.run_bind, hrun, Result.andThen_ok, Sem.run_pure]
    have fresh_c : s.c w.heap.size = none := by
      cases hc : s.c w.heap.size with
      | none => rfl
      | some cs => have := hr.h.lt_c hc; omega
    have fresh_f : s.f w.heap.size = none := by
      cases hc : s.f w.heap.size with
      | none => rfl
      | some cs => have := hr.h.lt_f hc; omega
    have hal : Sin I s w I s (w.alloc (.cells cells e)) := Sin.alloc hr.h (fun _ _ h => h) (fun _ _ h => .inl h)
    have hha : RelH I s (w.alloc (.cells cells e)) := hr.h.alloc (fun _ _ h => h) (fun _ _ h => .inl h)
    have hh2 : RelH I { s with f := upd s.f w.heap.size (some (0, m.toNat * sz)) } (w.alloc (.cells cells e)) := by
      refine ⟨hha.hc, fun b n' m' hb => ?_, hha.hg, hha.hi, hha.hy⟩
      simp only [upd] at hb
      split at hb
      · rename_i e'; subst e'; cases hb
        exact ⟨fresh_c, cells, e, alloc_new, by rw [hc, hsz]; exact Nat.le_refl _, Nat.zero_le _, fun o _ hi => by have := hr.h.hi _ _ hi; omega⟩
      · exact hha.hf b n' m' hb
    have hs2 : Sin I s w I { s with f := upd s.f w.heap.size (some (0, m.toNat * sz)) } (w.alloc (.cells cells e)) :=
      ⟨hal.size, hal.keeps, hal.new, fun b hb => by
        rcases hb with hb | hb | hb
        · exact .inl (.inl hb)
        · simp only [upd] at hb
          split at hb
          · rename_i e'; exact .inr (by rw [e']; exact Nat.le_refl _)
          · exact .inl (.inr (.inl hb))
        · exact .inl (.inr (.inr hb)), hal.same, hal.os, hal.output, hal.tape⟩
    refine wp_value hrun' ⟨_, L, _, Ok.after (v := .sl [] [] false (some (w.heap.size, m.toNat))) hr hs hf hs2 hh2 (by rw [hd]; rintro x ⟨⟩; exact hN) (RF.of_rv ?_), ?_⟩
    · simp only [RV]
      refine ⟨_, m.toNat, rfl, by simp, by simp, by unfold top; omega, ?_, by simp, fun _ => ⟨_, 0, sz, rfl, by simp [RVmm], by simp [RVmm]⟩⟩
      rintro b c ⟨⟩; exact ⟨rfl, rfl⟩
    · rw [hd]; exact hk _ fresh_c fresh_f
  · exact hw.elim

end

end Go.VL
