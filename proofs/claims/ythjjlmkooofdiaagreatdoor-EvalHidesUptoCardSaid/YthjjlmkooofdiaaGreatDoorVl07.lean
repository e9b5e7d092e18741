/-
  a part of the proof: the texts VlNb, VlO, VlP, VlR, joined: helper laws; none of them is the statement.
-/
import Derived.Test.YthjjlmkooofdiaaGreatDoorVl06

/-
  VlNb: functions that defer one call.
-/
namespace Go.VL
open Go

def isPtr : V → Bool
  | .ptr _ _ => true
  | _ => false

theorem RVs.of_ptr {I I' : Nat → Nat → Prop} {w w' : World} : ∀ {vs : List V} {cs : List Value}, (∀ v ∈ vs, isPtr v = true) → RVs I w vs cs → RVs I' w' vs cs
  | [], [], _, _ => by simp only [RVs]
  | v :: vs, c :: cs, hp, h => by
    simp only [RVs] at h ⊢
    refine ⟨?_, RVs.of_ptr (fun v hv => hp v (by simp [hv])) h.2⟩
    have := hp v (by simp)
    cases v <;> simp only [isPtr] at this <;> first | (cases this; done) | (simp only [RV] at h ⊢; exact h.1)
  | [], _ :: _, _, h => by simp only [RVs] at h
  | _ :: _, [], _, h => by simp only [RVs] at h

section
variable {P : Program}

/-- THE CONTRACT OF A DEFERRED CALL, out of the function's walk. -/
theorem dc_of_wpS {f : Nat} {fn : Func} {c : Code} {sc : SC} {rs : List RS} {args : List V} {s : H} {Q : V → H → Prop} (lps : List Nat) (hl2 : lps.contains 2000000 = false) (hf : P.funcs[f]? = some fn) (hb : fn.body = some c)
    (hc : compC P fn.ntmps lps c = some sc) (hr : compRes P fn.results.toList = some rs) (hn : args.length ≤ fn.ntmps)
    (hw : wpS P sc (bodyQ rs Q) (initT args) (fun _ => (0, [])) s) {I : Nat → Nat → Prop} {w : World} {cargs : Array Value} (hh : RelH I s w) (hv : RVs I w args cargs.toList) (u : FrameMode) :
    CallsDIn (FW none) 0 P f cargs u w fun e u' w' => u' = u ∧ ∃ v r I' s', e = .returned v ∧ Sin I s w I' s' w' ∧ RelH I' s' w' ∧ RV I' w' r v ∧ Q r s' := by
  have h0 := init_ok (n := fn.ntmps) (ro := none) (base := w.heap.size) (mky := false) hh hv hn
  have := wpS_sound (n := 0) (fun h => by rw [hl2] at h; cases h) rfl c hc h0 hw
  refine callsDIn_of_wp hf hb trivial (wpIn_mono this fun e a w' he => ?_)
  have fin : ∀ {a : Act} {w' : World}, Nx { n := fn.ntmps, base := w.heap.size } ⟨I, s, w⟩ (fun T L s => ∃ vs, resV T L s rs = some vs ∧ Q (tupV vs) s) a w' → a.defers = [] ∧ ∃ v, (results fn a.tmps).run P w' = .ok v w' ∧
      ∃ v' r I' s', Ending.returned v = .returned v' ∧ Sin I s w I' s' w' ∧ RelH I' s' w' ∧ RV I' w' r v' ∧ Q r s' := by
    rintro a w' ⟨T, L, s', ⟨I', lb, hrel, hs, _⟩, vs, hvs, hq⟩
    obtain ⟨ms, q1, q2, _⟩ := hrel.d
    obtain ⟨cv, h1, h2⟩ := results_sound hrel hr hvs
    exact ⟨by rw [q1, q2.1 rfl]; rfl, cv, h1, cv, tupV vs, I', s', rfl, hs, hrel.h, h2, hq⟩
  cases e with
  | normal => exact fin he
  | ret => exact fin he
  | exit id => obtain ⟨_, _, _, _, h⟩ := he; exact h.elim
  | _ => exact he.elim

/-- THE CONTRACT OF A FUNCTION that defers one call of a closure, ahead of all that may leave it: two pieces, the region with the defer statement, the rest. -/
theorem ac_of_defer {f : Nat} {fn : Func} {c0 c1 c3 : Code} {id d : Nat} {o1 o2 : Oper} {ts : Array TypeId} {sc0 sc1 sc3 : SC} {r1 : R} {rs : List RS} {args : List V} {s : H} {Q : V → H → Prop} (lps : List Nat) (hl2 : lps.contains 2000000 = false)
    (hf : P.funcs[f]? = some fn) (hb : fn.body = some (.seq c0 (.seq c1 (.seq (.region id #[o1, o2] false) c3))))
    (hok : okFn P f = true) (h0 : compC P fn.ntmps lps c0 = some sc0) (h1 : compC P fn.ntmps lps c1 = some sc1) (ho1 : compG P fn.ntmps lps false #[o1, o2] o1 = some r1)
    (ho2 : o2.op = .defer { callee := .value (.tmp d), args := #[], argTypes := ts }) (hd2 : o2.dst = none) (hg1 : o1.guard = none) (hg2 : o2.guard = none) (h3 : compC P fn.ntmps lps c3 = some sc3) (hr : compRes P fn.results.toList = some rs) (hn : args.length ≤ fn.ntmps)
    {g : Nat} {gn : Func} {gc : Code} {gsc : SC} {grs : List RS} (glps : List Nat) (gl2 : glps.contains 2000000 = false) (hgf : P.funcs[g]? = some gn) (hgb : gn.body = some gc) (hgok : okFn P g = true) (hgc : compC P gn.ntmps glps gc = some gsc)
    (hgr : compRes P gn.results.toList = some grs) 
    (hw : wpS P (.seq sc0 sc1) (fun e => match e with
      | .normal => wpR P r1 fun T L s => ∃ ca, T d = .fn (.func g) [] ca ∧ (∀ v ∈ ca, isPtr v = true) ∧ ca.length ≤ gn.ntmps ∧ wpS P sc3 (fun e => match e with
        | .exit _ => fun _ _ _ => False
        | _ => fun T L s => wpS P gsc (bodyQ grs fun _ s' => ∃ vs, resV T L s' rs = some vs ∧ Q (tupV vs) s') (initT ca) (fun _ => (0, [])) s) T L s
      | _ => fun _ _ _ => False) (initT args) (fun _ => (0, [])) s) : AC P f args s Q := by
  refine ⟨hok, fun I w cargs hh hv => ?_⟩
  have hi := init_ok (n := fn.ntmps) (ro := none) (base := w.heap.size) (mky := false) hh hv hn
  have hlf : ∀ {N : Fr}, lps.contains 2000000 = true → N.ro = none ∧ N.mky = true := fun h => by rw [hl2] at h; cases h
  refine callsIn_FW (ro := none) (n := 0) |>.1 (callsIn_of_wp_marks hf hb trivial ?_)
  simp only [wpS] at hw
  refine wpIn_seq (F := FW none) (wpIn_mono (wpS_sound (N := { n := fn.ntmps, base := w.heap.size }) (n := 0) hlf rfl c0 h0 hi hw) fun e a w1 he => ?_)
  cases e with
  | exit id => obtain ⟨_, _, _, _, h⟩ := he; exact h.elim
  | ret => obtain ⟨_, _, _, _, h⟩ := he; exact h.elim
  | panic _ => exact he.elim
  | goto _ => exact he.elim
  | outgrown => exact he.elim
  | normal =>
  obtain ⟨T, L, s1, hok1, hw⟩ := he
  refine wpIn_seq (F := FW none) (wpIn_mono (wpS_sound (N := { n := fn.ntmps, base := w.heap.size }) (n := 0) hlf rfl c1 h1 hok1 hw) fun e a w1 he => ?_)
  cases e with
  | exit id => obtain ⟨_, _, _, _, h⟩ := he; exact h.elim
  | ret => obtain ⟨_, _, _, _, h⟩ := he; exact h.elim
  | panic _ => exact he.elim
  | goto _ => exact he.elim
  | outgrown => exact he.elim
  | normal =>
  obtain ⟨T, L, s1, hok1, hw⟩ := he
  refine wpIn_seq (F := FW none) (wpIn_region ?_)
  have hlist : List.range (#[o1, o2] : Array Oper).size = [0, 1] := rfl
  have e0 : (#[o1, o2] : Array Oper)[0]? = some o1 := rfl
  have e1 : (#[o1, o2] : Array Oper)[1]? = some o2 := rfl
  have hwt1 : Region.wanted o1 (yielded #[o1, o2] a.tmps) = true := by simp [Region.wanted, hg1]
  have hG := compG_in (Q := (Exit.then (fun a w => c3.wpIn (FW none) 0 P (bodyPostM (FW none) 0 P fn fun e w' => ∃ v r I' s', e = .returned v ∧ Sin I s w I' s' w' ∧ RelH I' s' w' ∧ RV I' w' r v ∧ Q r s') a w) (bodyPostM (FW none) 0 P fn fun e w' => ∃ v r I' s', e = .returned v ∧ Sin I s w I' s' w' ∧ RelH I' s' w' ∧ RV I' w' r v ∧ Q r s')))
    (ro := none) (n := 0) ho1 hok1 hw
  rw [if_pos hwt1] at hG
  simp only [hlist, wpOpsIn, e0, hwt1, if_true]
  refine Oper.wpIn_mono ?_ hG
  rintro a2 w2 ⟨T2, L2, s2, hok2, ca, hT, hptr, hcl, hw3⟩
  have hwt2 : Region.wanted o2 (yielded #[o1, o2] a2.tmps) = true := by simp [Region.wanted, hg2]
  simp only [e1, hwt2, if_true]
  refine ⟨fun _ _ => trivial, ?_⟩
  obtain ⟨I2, lb2, hr2, hs2, hf2⟩ := hok2
  have hTd := hr2.t d
  rw [hT] at hTd
  simp only [RF, RV] at hTd
  obtain ⟨b1, b2, hv2, q1, q2⟩ := hTd
  obtain rfl : b1 = #[] := by have := q1.length; simpa using this.symm
  have hrun : (o2.semAt (FW none).round a2.eval).run P w2 = .ok (.defer { target := .fn (.func g) b2, args := #[] }) w2 := by
    rw [FW_round, Oper.semAt_none]
    have : execOp a2.eval o2 = (do pure (.defer (← resolve a2.eval { callee := .value (.tmp d), args := #[], argTypes := ts } o2.type))) := by
      obtain ⟨dst, op, ty, pos, after, guard⟩ := o2
      simp only at ho2; subst ho2; rfl
    rw [this]
    simp [resolve, Act.eval, hv2, Deferred.ofValue]
  rw [hrun, Oper.uponIn_defer, hd2]
  simp only [Act.put, Exit.then]
  obtain ⟨ms, m1, m2, _⟩ := hr2.d
  have hdef : a2.defers = [] := by rw [m1, m2.1 rfl]; rfl
  have hok3 : Ok { n := fn.ntmps, base := w.heap.size, D := [{ target := .fn (.func g) b2, args := #[] }] } ⟨I, s, w⟩ T2 L2 s2 { a2 with defers := { target := .fn (.func g) b2, args := #[] } :: a2.defers } w2 :=
    ⟨I2, lb2, ⟨hr2.h, hr2.t, hr2.n, ⟨[], by rw [hdef]; rfl, ⟨fun _ => rfl, .nil⟩, fun _ h => by cases h⟩, hr2.u, hr2.l, hr2.j⟩, hs2, hf2⟩
  refine wpIn_mono (wpS_sound (n := 0) hlf rfl c3 h3 hok3 hw3) fun e a3 w3 he => ?_
  have q2' : RVs I2 w2 ca b2.toList := q2
  have fin : ∀ {a3 : Act} {w3 : World}, Nx { n := fn.ntmps, base := w.heap.size, D := [{ target := .fn (.func g) b2, args := #[] }] } ⟨I, s, w⟩ (fun T L s => wpS P gsc (bodyQ grs fun _ s' => ∃ vs, resV T L s' rs = some vs ∧ Q (tupV vs) s') (initT ca) (fun _ => (0, [])) s) a3 w3 → LeavesInM (FW none) 0 P fn a3.tmps (fun e w' => ∃ v r I' s', e = .returned v ∧ Sin I s w I' s' w' ∧ RelH I' s' w' ∧ RV I' w' r v ∧ Q r s') a3.defers .returning w3 := by
    rintro a3 w3 ⟨T3, L3, s3, ⟨I3, lb3, hr3, hs3, hf3⟩, hw4⟩
    obtain ⟨ms3, m3, m4, _⟩ := hr3.d
    have hdef3 : a3.defers = [{ target := .fn (.func g) b2, args := #[] }] := by rw [m3, m4.1 rfl]; rfl
    rw [hdef3]
    simp only [LeavesInM]
    refine ⟨by simp, .inr ⟨fun h => FW_depth _ h, .func g, b2, g, b2, rfl, ?_, fun _ _ => trivial, ?_⟩⟩
    · have := run_enter (P := P) (args := b2) hgok w3
      simpa [invoke] using this
    · have := dc_of_wpS (f := g) (cargs := b2) glps gl2 hgf hgb hgc hgr hcl hw4 hr3.h (RVs.of_ptr hptr q2') .returning
      refine CallsDIn.mono this ?_
      rintro e u' w4 ⟨rfl, v, r, I4, s4, rfl, hs4, hh4, _, vs, hvs, hq⟩
      obtain ⟨cv, h1, h2⟩ := results_sound (hr3.after hs4 hh4) hr hvs
      simp only [settle, LeavesIn]
      exact ⟨cv, h1, cv, tupV vs, I4, s4, rfl, hs3.trans hs4, hh4, h2, hq⟩
  cases e with
  | normal => exact fin he
  | ret => exact fin he
  | exit id => obtain ⟨_, _, _, _, h⟩ := he; exact h.elim
  | _ => exact he.elim

end

end Go.VL

/-
  VlO: contracts, weakened.
-/
namespace Go.VL
open Go

/-- a value says no more than another one. -/
def Le (v v' : V) : Prop := ∀ (I : Nat → Nat → Prop) (w : World) (c : Value), RV I w v c → RV I w v' c
def Les (vs vs' : List V) : Prop := ∀ (I : Nat → Nat → Prop) (w : World) (cs : List Value), RVs I w vs cs → RVs I w vs' cs

theorem Le.refl (v : V) : Le v v := fun _ _ _ h => h
theorem Les.refl (vs : List V) : Les vs vs := fun _ _ _ h => h
theorem Le.trans {a b c : V} (h : Le a b) (h' : Le b c) : Le a c := fun I w x hx => h' I w x (h I w x hx)
theorem Les.cons {v v' : V} {vs vs' : List V} (h : Le v v') (hs : Les vs vs') : Les (v :: vs) (v' :: vs') := fun I w cs hc => by
  cases cs with
  | nil => simp only [RVs] at hc
  | cons c cs => simp only [RVs] at hc ⊢; exact ⟨h I w c hc.1, hs I w cs hc.2⟩
theorem Le.agg {vs vs' : List V} (h : Les vs vs') : Le (.agg vs) (.agg vs') := fun I w c hc => by
  simp only [RV] at hc ⊢
  obtain ⟨a, e, ha⟩ := hc
  exact ⟨a, e, h I w _ ha⟩
theorem Le.tup {vs vs' : List V} (h : Les vs vs') : Le (.tup vs) (.tup vs') := fun I w c hc => by
  simp only [RV] at hc ⊢
  obtain ⟨a, e, ha⟩ := hc
  exact ⟨a, e, h I w _ ha⟩
theorem Le.any (v : V) : Le v .any := fun _ _ _ _ => by simp only [RV]
/-- a slice forgets its spare room. -/
theorem Le.sl (xs sp : List (List V)) (ex : Bool) (t : Option (Nat × Nat)) : Le (.sl xs sp ex t) (.sl xs [] false none) := fun I w c hc => by
  simp only [RV] at hc ⊢
  obtain ⟨a, cap, h1, h2, h3, h4, h5, h6, h7⟩ := hc
  refine ⟨a, cap, h1, by simp; omega, by simp, h4, by simp, h6, fun h => ?_⟩
  obtain ⟨b, o, k, e, m1, m2⟩ := h7 h
  exact ⟨b, o, k, e, m1, by simp only [RVmm]⟩
theorem Le.m {b : Nat} {I : Nat → Nat → Prop} {w : World} : ∀ {vs vs' : List V} {o : Nat}, Les vs vs' → vs.length = vs'.length → RVm I w b o vs → RVm I w b o vs'
  | vs, vs', o, h, hl, hm => by
    refine RVm.of_get fun i v' hv' => ?_
    have hlt : i < vs.length := by rw [hl]; exact (List.getElem?_eq_some_iff.1 hv').1
    -- the cells, as a list
    have hall : ∀ j v, vs[j]? = some v → ∃ c, w.cell? ⟨b, o + j, none⟩ = some c ∧ RV I w v c := fun j v hj => (hm.get hj).2
    obtain ⟨cs, h1, h2⟩ := Mem.read (I := I) (w := w) (b := b) (base := o) (cs := vs) (fun j v hj => hall j v hj)
    obtain ⟨c, hc, hr⟩ := (h I w cs h1).get hv'
    exact ⟨(hm.get (List.getElem?_eq_getElem hlt)).1, c, h2 i c hc, hr⟩
/-- elements of a slice say less. -/
theorem Le.elems {xs xs' : List (List V)} (hl : xs.length = xs'.length) (h : ∀ (i : Nat) (x x' : List V), xs[i]? = some x → xs'[i]? = some x' → Les x x' ∧ x.length = x'.length) (ex : Bool) (t : Option (Nat × Nat)) : Le (.sl xs [] ex t) (.sl xs' [] ex t) := fun I w c hc => by
  simp only [RV] at hc ⊢
  obtain ⟨a, cap, h1, h2, h3, h4, h5, h6, h7⟩ := hc
  refine ⟨a, cap, by rw [← hl]; exact h1, by rw [← hl]; exact h2, by rw [← hl]; exact h3, h4, h5, h6, fun hcap => ?_⟩
  obtain ⟨b, o, k, e, m1, m2⟩ := h7 hcap
  refine ⟨b, o, k, e, RVmm.of_get fun i x' hx' => ?_, by simp only [RVmm]⟩
  have hlt : i < xs.length := by rw [hl]; exact (List.getElem?_eq_some_iff.1 hx').1
  obtain ⟨q1, q2⟩ := m1.get (List.getElem?_eq_getElem hlt)
  obtain ⟨q3, q4⟩ := h i _ x' (List.getElem?_eq_getElem hlt) hx'
  exact ⟨by rw [← q4]; exact q1, Le.m (b := b) q3 q4 q2⟩

/-- less is owned. -/
def H.le (s s' : H) : Prop := (∀ b cs, s.c b = some cs → s'.c b = some cs) ∧ (∀ b x, s.f b = some x → s'.f b = some x) ∧ (∀ x ∈ s.g, x ∈ s'.g) ∧ ∀ b y, s.y b = some y → s'.y b = some y

theorem H.le.refl (s : H) : H.le s s := ⟨fun _ _ h => h, fun _ _ h => h, fun _ h => h, fun _ _ h => h⟩

theorem RelH.drop {I : Nat → Nat → Prop} {s s' : H} {w : World} (h : RelH I s' w) (hle : H.le s s') : RelH I s w where
  hc b cs hb := h.hc b cs (hle.1 b cs hb)
  hf b n m hb := by
    obtain ⟨h1, h2⟩ := h.hf b n m (hle.2.1 b _ hb)
    refine ⟨?_, h2⟩
    cases hc : s.c b with
    | none => rfl
    | some cs => rw [hle.1 b cs hc] at h1; cases h1
  hg x hx := h.hg x (hle.2.2.1 x hx)
  hi := h.hi
  hy b y hb := h.hy b y (hle.2.2.2 b y hb)

theorem H.le.owned {s s' : H} (hle : H.le s s') {b : Nat} (h : s.owned b) : s'.owned b := by
  rcases h with h | h | h
  · left
    cases hc : s.c b with
    | none => exact absurd hc h
    | some cs => rw [hle.1 b cs hc]; simp
  · right; left
    cases hc : s.f b with
    | none => exact absurd hc h
    | some x => rw [hle.2.1 b x hc]; simp
  · right; right
    cases hc : s.y b with
    | none => exact absurd hc h
    | some x => rw [hle.2.2.2 b x hc]; simp

/-- A contract says less: values, and memory that is owned no more. -/
theorem AC.weak {P : Program} {f : Nat} {args : List V} {s : H} {Q Q' : V → H → Prop} (h : AC P f args s Q) (hq : ∀ r s', Q r s' → ∃ r' s'', Le r r' ∧ H.le s'' s' ∧ Q' r' s'') : AC P f args s Q' :=
  ⟨h.1, fun I w ca hr ha => (h.2 I w ca hr ha).mono fun _ _ ⟨v, r, I', s', e, h1, h2, h3, h4⟩ => by
    obtain ⟨r', s'', q1, q2, q3⟩ := hq r s' h4
    exact ⟨v, r', I', s'', e, ⟨h1.size, h1.keeps, h1.new, fun b hb => h1.own b (q2.owned hb), h1.same, h1.os, h1.output, h1.tape⟩, h2.drop q2, q1 _ _ _ h3, q3⟩⟩

/-- What is passed says more than is asked. -/
theorem AC.args {P : Program} {f : Nat} {args args' : List V} {s : H} {Q : V → H → Prop} (h : AC P f args' s Q) (ha : Les args args') : AC P f args s Q :=
  ⟨h.1, fun I w ca hr hv => h.2 I w ca hr (ha _ _ _ hv)⟩

/-- it gives a value, and leaves what is owned. -/
def Gv (P : Program) (f : Nat) (args : List V) (r : V) : Prop := ∀ s, AC P f args s fun r' s' => r' = r ∧ s' = s

/-- a block that nobody writes any more. -/
def frz (I : Nat → Nat → Prop) (b n : Nat) : Nat → Nat → Prop := fun b' o => I b' o ∨ (b' = b ∧ o < n)
def H.lose (s : H) (b : Nat) : H := { s with c := upd s.c b none }

theorem freeze {I : Nat → Nat → Prop} {s : H} {w : World} (h : RelH I s w) {b n c k : Nat} {rows : List (List V)} (hb : s.c b = some rows.flatten) (hk : ∀ x ∈ rows, x.length = k) (hn : rows.length = n) (hc : n ≤ c) (ht : c < top) :
    RelH (frz I b rows.flatten.length) (s.lose b) w ∧ Sin I s w (frz I b rows.flatten.length) (s.lose b) w ∧ RV (frz I b rows.flatten.length) w (.sl rows [] false none) (.slice (some ⟨b, 0, none⟩) n c) := by
  have hlt := h.lt_c hb
  obtain ⟨⟨vs, t, hv, hp⟩, hnI⟩ := h.hc b _ hb
  have hkeep : Keeps I w (frz I b rows.flatten.length) w := ⟨fun _ _ h => .inl h, fun _ _ _ => rfl⟩
  have hfb : s.f b = none := by
    cases hf : s.f b with
    | none => rfl
    | some x => have := (h.hf b x.1 x.2 hf).1; rw [hb] at this; cases this
  refine ⟨⟨fun b' cs hb' => ?_, fun b' n' m' hb' => ?_, fun x hx => RVm.keeps hkeep _ _ _ (h.hg x hx), fun b' o hi => ?_, h.yes hkeep (fun _ _ => rfl) (fun b' o hb' hi => by
    rcases hi with hi | ⟨e, _⟩
    · exact hi
    · exact absurd hv (h.y_c (e ▸ hb')))⟩, ⟨Nat.le_refl _, hkeep, fun b' o hi => ?_, fun b' ho => ?_, fun _ _ _ => rfl, rfl, rfl, rfl⟩, ?_⟩
  · simp only [H.lose, upd] at hb'
    split at hb'
    · cases hb'
    · rename_i hne
      obtain ⟨⟨vs', t', q1, q2⟩, q3⟩ := h.hc b' cs hb'
      refine ⟨⟨vs', t', q1, q2.keeps hkeep⟩, fun o ho => ?_⟩
      rcases ho with ho | ⟨e, _⟩
      · exact q3 o ho
      · exact hne e
  · have hne : b' ≠ b := by rintro rfl; rw [show (s.lose b').f b' = s.f b' from rfl, hfb] at hb'; cases hb'
    obtain ⟨q0, vs', t', q1, q2, q3, q4⟩ := h.hf b' n' m' hb'
    refine ⟨by simp only [H.lose, upd, if_neg hne]; exact q0, vs', t', q1, q2, q3, fun o ho hi => ?_⟩
    rcases hi with hi | ⟨e, _⟩
    · exact q4 o ho hi
    · exact hne e
  · rcases hi with hi | ⟨e, _⟩
    · exact h.hi b' o hi
    · rw [e]; exact hlt
  · rcases hi with hi | ⟨e, _⟩
    · exact .inl hi
    · exact .inr (.inl (.inl (by rw [e, hb]; simp)))
  · refine .inl ?_
    rcases ho with ho | ho
    · simp only [H.lose, upd] at ho
      split at ho
      · exact absurd rfl ho
      · exact .inl ho
    · exact .inr ho
  · simp only [RV]
    refine ⟨_, c, by rw [hn], by simp; omega, by simp, ht, by simp, by simp, fun _ => ⟨b, 0, k, rfl, RVmm.of_flat hk (RVm.of_get fun i v hi => ?_), by simp only [RVmm]⟩⟩
    have hil : i < rows.flatten.length := (List.getElem?_eq_some_iff.1 hi).1
    refine ⟨.inr ⟨rfl, by omega⟩, ?_⟩
    obtain ⟨cv, hcv, hrv⟩ := hp.2.get hi
    rw [List.getElem?_take_of_lt hil] at hcv
    exact ⟨cv, by simp only [World.cell?, hv, Nat.zero_add]; simpa using hcv, RV.keeps hkeep _ _ hrv⟩

/-- A contract: a list that comes back in a block of its own is a list. -/
theorem AC.frozen {P : Program} {f : Nat} {args : List V} {s : H} {Q Q' : V → H → Prop} (h : AC P f args s Q)
    (hq : ∀ r s', Q r s' → Q' r s' ∨ ∃ b n c k rows, r = .hs b 0 n c ∧ s'.c b = some rows.flatten ∧ (∀ x ∈ rows, x.length = k) ∧ rows.length = n ∧ n ≤ c ∧ c < top ∧ Q' (.sl rows [] false none) (s'.lose b)) : AC P f args s Q' :=
  ⟨h.1, fun I w ca hr ha => (h.2 I w ca hr ha).mono fun _ _ ⟨v, r, I', s', e, h1, h2, h3, h4⟩ => by
    rcases hq r s' h4 with q | ⟨b, n, c, k, rows, rfl, q1, q2, q3, q4, q5, q6⟩
    · exact ⟨v, r, I', s', e, h1, h2, h3, q⟩
    · obtain ⟨w1, w2, w3⟩ := freeze h2 q1 q2 q3 q4 q5
      simp only [RV] at h3
      subst h3
      exact ⟨_, _, _, _, e, h1.trans w2, w1, w3, q6⟩⟩

/-- A list in a block of one's own is passed as a list. -/
theorem AC.freeze_arg {P : Program} {f : Nat} {s : H} {Q : V → H → Prop} {b n c k : Nat} {rows : List (List V)} (hb : s.c b = some rows.flatten) (hk : ∀ x ∈ rows, x.length = k) (hn : rows.length = n) (hc : n ≤ c) (ht : c < top)
    (h : AC P f [.sl rows [] false none] (s.lose b) Q) : AC P f [.hs b 0 n c] s Q :=
  ⟨h.1, fun I w ca hr ha => by
    obtain ⟨w1, w2, w3⟩ := freeze hr hb hk hn hc ht
    have ha' : RVs (frz I b rows.flatten.length) w [.sl rows [] false none] ca.toList := by
      revert ha
      cases ca.toList with
      | nil => simp only [RVs]; exact fun h => h
      | cons x xs =>
        cases xs with
        | nil =>
          simp only [RVs, RV]
          rintro ⟨rfl, _⟩
          simpa only [RV] using And.intro w3 trivial
        | cons y ys => simp only [RVs]; rintro ⟨_, h⟩; exact h.elim
    refine (h.2 _ w ca w1 ha').mono ?_
    rintro e w' ⟨v, r, I', s', q1, q2, q3, q4, q5⟩
    exact ⟨v, r, I', s', q1, w2.trans q2, q3, q4, q5⟩⟩

end Go.VL

/-
  VlP: walking: what simp is told.
-/
namespace Go.VL
open Go

@[simp] theorem upd_apply {α : Type} (T : Nat → α) (d i : Nat) (v : α) : upd T d v i = if i = d then v else T i := rfl
@[simp] theorem initT_nil (i : Nat) : initT [] i = .any := by simp [initT]
@[simp] theorem initT_cons_zero (v : V) (vs : List V) : initT (v :: vs) 0 = v := rfl
@[simp] theorem initT_apply (vs : List V) (i : Nat) : initT vs i = vs.getD i .any := rfl

attribute [simp] wpS wpRs wpR wpSkip skipR evE X.ev put need facts lenFact binV intV strV lenV natOf iaV iaaV faV ixV ixaV nilckV cellsAt takeV keepable bodyQ resV tupV cellsOf solid one fillV setCells boundO slcV isNil elems

theorem wrap_small (n : Nat) (h : n < top) : IntKind.i64.wrap (n : Int) = n := by
  unfold top at h
  simp [IntKind.wrap, IntKind.bits, IntKind.signed]
  omega

theorem wrap_succ (n : Nat) (h : n + 1 < top) : IntKind.i64.wrap ((n : Int) + 1) = ((n + 1 : Nat) : Int) := by
  have := wrap_small (n + 1) h
  simpa using this

theorem wpS_mono {P : Program} : ∀ (x : SC) {Q Q' : XE → Post}, (∀ e T L s, Q e T L s → Q' e T L s) → ∀ {T : Nat → V} {L : Nat → Nat × List V} {s : H}, wpS P x Q T L s → wpS P x Q' T L s
  | .skip, Q, Q', hq, T, L, s, h => by simp only [wpS] at h ⊢; exact hq _ _ _ _ h
  | .reg rs, Q, Q', hq, T, L, s, h => by simp only [wpS] at h ⊢; exact wpRs_mono rs (hq _) h
  | .seq x y, Q, Q', hq, T, L, s, h => by
    simp only [wpS] at h ⊢
    refine wpS_mono x (fun e T L s h => ?_) h
    cases e with
    | normal => exact wpS_mono y hq h
    | exit id => exact hq _ _ _ _ h
    | ret => exact hq _ _ _ _ h
  | .cond c x y, Q, Q', hq, T, L, s, h => by
    simp only [wpS] at h ⊢
    split at h
    · split at h
      · rename_i e; rw [if_pos e]; exact wpS_mono x hq h
      · rename_i e; rw [if_neg e]; exact wpS_mono y hq h
    · exact h.elim
  | .block id x, Q, Q', hq, T, L, s, h => by
    simp only [wpS] at h ⊢
    refine wpS_mono x (fun e T L s h => ?_) h
    cases e with
    | normal => exact hq _ _ _ _ h
    | exit id' =>
      simp only at h ⊢
      split at h
      · rename_i e; rw [if_pos e]; exact hq _ _ _ _ h
      · rename_i e; rw [if_neg e]; exact hq _ _ _ _ h
    | ret => exact hq _ _ _ _ h
  | .loop x, Q, Q', hq, T, L, s, h => by
    simp only [wpS] at h ⊢
    obtain ⟨J, h0, h1⟩ := h
    refine ⟨J, h0, fun n T L s hj => wpS_mono x (fun e T L s h => ?_) (h1 n T L s hj)⟩
    cases e with
    | normal => exact h
    | exit id => exact hq _ _ _ _ h
    | ret => exact hq _ _ _ _ h
  | .exit id, Q, Q', hq, T, L, s, h => by simp only [wpS] at h ⊢; exact hq _ _ _ _ h
  | .ret, Q, Q', hq, T, L, s, h => by simp only [wpS] at h ⊢; exact hq _ _ _ _ h
  | .range g n ps asC bdC, Q, Q', hq, T, L, s, h => by
    simp only [wpS] at h ⊢
    split at h
    · intro l D h1 h2 h3
      refine (h l D h1 h2 h3).mono ?_
      rintro r s' ⟨st, pend, q1, q2, q3⟩
      refine ⟨st, pend, q1, q2, ?_⟩
      split at q3
      · exact hq _ _ _ _ q3
      · exact hq _ _ _ _ q3
      · exact hq _ _ _ _ q3
      · exact q3
    · exact h.elim

/-- what holds between two pieces. -/
theorem wpS_cut {P : Program} {x y : SC} {Q : XE → Post} {T : Nat → V} {L : Nat → Nat × List V} {s : H} (R : Post)
    (hx : wpS P x (fun e => match e with | .normal => R | .exit id => Q (.exit id) | .ret => Q .ret) T L s) (hy : ∀ T L s, R T L s → wpS P y Q T L s) : wpS P (.seq x y) Q T L s := by
  simp only [wpS]
  refine wpS_mono x (fun e T L s h => ?_) hx
  cases e with
  | normal => exact hy _ _ _ h
  | exit id => exact h
  | ret => exact h

theorem wpS_block {P : Program} {id : Nat} {x : SC} {Q : XE → Post} {T : Nat → V} {L : Nat → Nat × List V} {s : H}
    (h : wpS P x (fun e => match e with | .normal => Q .normal | .exit id' => if id' = id then Q .normal else Q (.exit id') | .ret => Q .ret) T L s) : wpS P (.block id x) Q T L s := by
  simp only [wpS]; exact h
theorem wpS_reg {P : Program} {rs : List R} {Q : XE → Post} {T : Nat → V} {L : Nat → Nat × List V} {s : H} (h : wpRs P rs (Q .normal) T L s) : wpS P (.reg rs) Q T L s := by
  simp only [wpS]; exact h

/-- a loop, by what holds at the head of each round; n goes down. -/
theorem wpS_loop {P : Program} {x : SC} {Q : XE → Post} {T : Nat → V} {L : Nat → Nat × List V} {s : H} (J : Nat → Post) (h0 : ∃ n, J n T L s)
    (h : ∀ n T L s, J n T L s → wpS P x (fun e => match e with | .normal => fun T L s => ∃ m, m < n ∧ J m T L s | .exit id => Q (.exit id) | .ret => Q .ret) T L s) : wpS P (.loop x) Q T L s := by
  simp only [wpS]; exact ⟨J, h0, h⟩

theorem wpRs_append {P : Program} : ∀ (a b : List R) {K : Post} {T : Nat → V} {L : Nat → Nat × List V} {s : H}, wpRs P a (wpRs P b K) T L s → wpRs P (a ++ b) K T L s
  | [], b, K, T, L, s, h => by simpa only [wpRs, List.nil_append] using h
  | r :: a, b, K, T, L, s, h => by
    simp only [wpRs, List.cons_append] at h ⊢
    exact wpR_mono r (fun T L s h => wpRs_append a b h) h

/-- what holds between two pieces of a region. -/
theorem wpRs_cut {P : Program} {rs : List R} {K : Post} {T : Nat → V} {L : Nat → Nat × List V} {s : H} (k : Nat) (M : Post)
    (h1 : wpRs P (rs.take k) M T L s) (h2 : ∀ T L s, M T L s → wpRs P (rs.drop k) K T L s) : wpRs P rs K T L s := by
  rw [← List.take_append_drop k rs]
  exact wpRs_append _ _ (wpRs_mono _ h2 h1)

end Go.VL

/-
  VlR: the data of the statements: values, fields, expressions, acts, resources; their cells.
-/
namespace Go.VL
open Go

mutual
inductive Val where
  | mk (k n : Int) (s : List UInt8) (l : List Val) (f : List Fld) (el : Int) (key : List UInt8) (has : Bool)
inductive Fld where
  | mk (name : List UInt8) (v : Val)
end
mutual
inductive Ex where
  | mk (k n : Int) (s : List UInt8) (args : List Ex) (names : List (List UInt8)) (vals : List Ex) (el : Int) (key : List Ex) (acts : List Ac) (site : List UInt8)
inductive Ac where
  | mk (k : Int) (name : List UInt8) (e : Ex)
end
structure Rs where
  key : List UInt8
  fails : Bool
  v : Val

def Val.nil : Val := .mk 0 0 [] [] [] 0 [] false

mutual
def Val.cells : Val → List V
  | .mk k n s l f el key has => [.int .u8 k, .int .i64 n, .str s, .sl (Val.rows l) [] false none, .sl (Fld.rows f) [] false none, .int .u8 el, .str key, .bool has]
def Val.rows : List Val → List (List V)
  | [] => []
  | v :: vs => v.cells :: Val.rows vs
def Fld.cells : Fld → List V
  | .mk name v => .str name :: v.cells
def Fld.rows : List Fld → List (List V)
  | [] => []
  | v :: vs => v.cells :: Fld.rows vs
end
def txtRows (l : List (List UInt8)) : List (List V) := l.map fun s => [.str s]
mutual
def Ex.cells : Ex → List V
  | .mk k n s args names vals el key acts site => [.int .u8 k, .int .i64 n, .str s, .sl (Ex.rows args) [] false none, .sl (txtRows names) [] false none, .sl (Ex.rows vals) [] false none, .int .u8 el, .sl (Ex.rows key) [] false none, .sl (Ac.rows acts) [] false none, .str site]
def Ex.rows : List Ex → List (List V)
  | [] => []
  | v :: vs => v.cells :: Ex.rows vs
def Ac.cells : Ac → List V
  | .mk k name e => .int .u8 k :: .str name :: e.cells
def Ac.rows : List Ac → List (List V)
  | [] => []
  | v :: vs => v.cells :: Ac.rows vs
end
def Rs.cells (r : Rs) : List V := .str r.key :: .bool r.fails :: r.v.cells

theorem Val.rows_eq : ∀ l : List Val, Val.rows l = l.map Val.cells
  | [] => by simp [Val.rows]
  | v :: vs => by simp [Val.rows, Val.rows_eq vs]
theorem Fld.rows_eq : ∀ l : List Fld, Fld.rows l = l.map Fld.cells
  | [] => by simp [Fld.rows]
  | v :: vs => by simp [Fld.rows, Fld.rows_eq vs]
theorem Ex.rows_eq : ∀ l : List Ex, Ex.rows l = l.map Ex.cells
  | [] => by simp [Ex.rows]
  | v :: vs => by simp [Ex.rows, Ex.rows_eq vs]
theorem Ac.rows_eq : ∀ l : List Ac, Ac.rows l = l.map Ac.cells
  | [] => by simp [Ac.rows]
  | v :: vs => by simp [Ac.rows, Ac.rows_eq vs]

theorem Val.len (v : Val) : v.cells.length = 8 := by cases v; simp [Val.cells]
theorem Fld.len (v : Fld) : v.cells.length = 9 := by cases v; simp [Fld.cells, Val.len]
theorem Ex.len (v : Ex) : v.cells.length = 10 := by cases v; simp [Ex.cells]
theorem Ac.len (v : Ac) : v.cells.length = 12 := by cases v; simp [Ac.cells, Ex.len]
theorem Rs.len (v : Rs) : v.cells.length = 10 := by simp [Rs.cells, Val.len]

/-- elements with sums. -/
theorem sums_of {α : Type} {P : Program} {f sz : Nat} {cells : α → List V} (hlen : ∀ x, (cells x).length = sz) : ∀ (l : List α), (∀ x ∈ l, ∃ g : Int, Gv P f [.agg (cells x)] (.int .i64 g)) →
    ∃ gs : List Int, gs.length = (l.map cells).length ∧ ∀ (i : Nat) (x : List V) (g : Int), (l.map cells)[i]? = some x → gs[i]? = some g → x.length = sz ∧ Gv P f [.agg x] (.int .i64 g)
  | [], _ => ⟨[], rfl, fun i x g h => by simp at h⟩
  | a :: l, h => by
    obtain ⟨gs, h1, h2⟩ := sums_of hlen l fun x hx => h x (by simp [hx])
    obtain ⟨g, hg⟩ := h a (by simp)
    refine ⟨g :: gs, by simpa using h1, fun i x g' hx hg' => ?_⟩
    cases i with
    | zero => simp at hx hg'; subst hx; subst hg'; exact ⟨hlen a, hg⟩
    | succ i => exact h2 i x g' (by simpa using hx) (by simpa using hg')

end Go.VL
