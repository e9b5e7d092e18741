/-
  a part of the proof: the texts VlM, VlMa, VlN, VlNa, joined: helper laws; none of them is the statement.
-/
import Derived.Test.YthjjlmkooofdiaaGreatDoorVl05
import Derived.RangeFuncRecord
import Derived.RangeFuncLeaves

/-
  VlM: regions that are drawn: one order is walked, all others follow.
-/
namespace Go.VL
open Go

/-- who must come ahead of an operation: a set, as bits. -/
def ancOf (tab : List Nat) (o : Oper) : Nat := o.after.toList.foldl (fun m e => if Region.binds .any e then m ||| (1 <<< e.on) ||| tab.getD e.on 0 else m) 0
def ancTab : List Oper → List Nat → List Nat
  | [], tab => tab
  | o :: os, tab => ancTab os (tab ++ [ancOf tab o])

theorem anc_fold (tab : List Nat) (j : Nat) : ∀ (es : List Edge) (m : Nat), (es.foldl (fun m e => if Region.binds .any e then m ||| (1 <<< e.on) ||| tab.getD e.on 0 else m) m).testBit j = true →
    m.testBit j = true ∨ ∃ e ∈ es, Region.binds .any e = true ∧ (e.on = j ∨ (tab.getD e.on 0).testBit j = true)
  | [], m, h => .inl h
  | e :: es, m, h => by
    simp only [List.foldl_cons] at h
    rcases anc_fold tab j es _ h with h | ⟨e', he', hb, h⟩
    · split at h
      · rename_i hb
        rw [Nat.testBit_or, Nat.testBit_or] at h
        simp only [Bool.or_eq_true] at h
        rcases h with (h | h) | h
        · exact .inl h
        · refine .inr ⟨e, by simp, hb, .inl ?_⟩
          rw [Nat.one_shiftLeft, Nat.testBit_two_pow] at h
          simpa using h
        · exact .inr ⟨e, by simp, hb, .inr h⟩
      · exact .inl h
    · exact .inr ⟨e', by simp [he'], hb, h⟩

/-- what a table of such sets says. -/
def Tab (ops : List Oper) (tab : List Nat) : Prop := ∀ i m, tab[i]? = some m → ∀ j, m.testBit j = true → ∃ o, ops[i]? = some o ∧ ∃ e ∈ o.after.toList, Region.binds .any e = true ∧ (e.on = j ∨ (e.on < i ∧ (tab.getD e.on 0).testBit j = true))

theorem ancTab_spec (ops : List Oper) : ∀ (os : List Oper) (tab : List Nat), ops.drop tab.length = os → Tab ops tab → Tab ops (ancTab os tab)
  | [], tab, _, h => h
  | o :: os, tab, hd, h => by
    simp only [ancTab]
    have ho : ops[tab.length]? = some o := by
      have : (ops.drop tab.length)[0]? = some o := by rw [hd]; rfl
      simpa using this
    refine ancTab_spec ops os _ (by simp only [List.length_append, List.length_singleton, ← List.drop_drop, hd]; rfl) ?_
    intro i m hi j hj
    rw [List.getElem?_append] at hi
    split at hi
    · rename_i hlt
      obtain ⟨o', ho', e, he, hb, hx⟩ := h i m hi j hj
      refine ⟨o', ho', e, he, hb, hx.imp id fun ⟨h1, h2⟩ => ⟨h1, ?_⟩⟩
      rw [List.getD_eq_getElem?_getD, List.getElem?_append_left (by omega), ← List.getD_eq_getElem?_getD]
      exact h2
    · rename_i hge
      have : i = tab.length := by
        rcases Nat.lt_or_ge (i - tab.length) 1 with h | h
        · omega
        · rw [List.getElem?_eq_none (by simpa using h)] at hi; cases hi
      subst this
      simp at hi
      subst hi
      refine ⟨o, ho, ?_⟩
      rcases anc_fold tab j _ _ hj with h | ⟨e, he, hb, hx⟩
      · simp at h
      · refine ⟨e, he, hb, hx.imp id fun h2 => ?_⟩
        have hlt : e.on < tab.length := by
          rcases Nat.lt_or_ge e.on tab.length with h | h
          · exact h
          · rw [List.getD_eq_getElem?_getD, List.getElem?_eq_none h] at h2; simp at h2
        exact ⟨hlt, by rw [List.getD_eq_getElem?_getD, List.getElem?_append_left hlt, ← List.getD_eq_getElem?_getD]; exact h2⟩

def okPairs (rs : List R) (tab : List Nat) : List Nat → Bool
  | [] => true
  | j :: is => is.all (fun i => (tab.getD i 0).testBit j || comm (rs.getD j default) (rs.getD i default)) && okPairs rs tab is

def nodupB : List Nat → Bool
  | [] => true
  | i :: is => !is.contains i && nodupB is

/-- may the operations be walked in this order alone. -/
def okDraw (ops : List Oper) (rs : List R) (ord : List Nat) : Bool :=
  ord.length == ops.length && ord.all (· < ops.length) && nodupB ord && (ops.zipIdx.all fun p => p.1.after.toList.all fun e => e.on < p.2) && okPairs rs (ancTab ops []) ord

/-- an order: computations as early as can be. -/
def drawOrd (ops : List Oper) (rs : List R) : List Nat :=
  let tab := ancTab ops []
  let idx := List.range ops.length
  let isP := fun i => (asP (rs.getD i default)).isSome
  let imps := idx.filter fun i => !isP i
  let mask := imps.foldl (fun m i => m ||| (1 <<< i)) 0
  let key := fun i => let m := (tab.getD i 0) &&& mask; if m = 0 then 0 else Nat.log2 m + 1
  let ps := (idx.filter isP).map fun i => (i, key i)
  ((ps.filter fun p => p.2 == 0).map (·.1)) ++ imps.flatMap fun q => q :: (ps.filter fun p => p.2 == q + 1).map (·.1)

theorem nodupB_spec : ∀ {l : List Nat}, nodupB l = true → l.Nodup
  | [], _ => List.nodup_nil
  | i :: is, h => by
    simp only [nodupB, Bool.and_eq_true, Bool.not_eq_true', List.contains_eq_mem, decide_eq_false_iff_not] at h
    exact List.nodup_cons.2 ⟨h.1, nodupB_spec h.2⟩

theorem okPairs_spec {rs : List R} {tab : List Nat} : ∀ {l : List Nat}, okPairs rs tab l = true → l.Pairwise fun j i => (tab.getD i 0).testBit j = true ∨ comm (rs.getD j default) (rs.getD i default) = true
  | [], _ => List.Pairwise.nil
  | j :: is, h => by
    simp only [okPairs, Bool.and_eq_true, List.all_eq_true, Bool.or_eq_true] at h
    exact List.pairwise_cons.2 ⟨h.1, okPairs_spec h.2⟩

/-- a list without repetition, as long as the range of its elements, has them all. -/
theorem all_mem : ∀ (n : Nat) (l : List Nat), l.Nodup → (∀ i ∈ l, i < n) → l.length = n → ∀ i < n, i ∈ l := by
  intro n
  induction n with
  | zero => intro l _ _ _ i hi; omega
  | succ n ih =>
    intro l hd hb hl i hi
    have hn : n ∈ l := by
      refine Classical.byContradiction fun hn => ?_
      have : ∀ i ∈ l, i < n := fun i hi => by have := hb i hi; rcases Nat.lt_or_ge i n with h | h; · exact h
                                              · exact absurd (show i = n by omega) (fun e => hn (e ▸ hi))
      have hle : ∀ (n : Nat) (l : List Nat), l.Nodup → (∀ i ∈ l, i < n) → l.length ≤ n := by
        intro n
        induction n with
        | zero => intro l _ hb; cases l with
          | nil => exact Nat.le_refl _
          | cons x xs => exact absurd (hb x (by simp)) (by omega)
        | succ n ih =>
          intro l hd hb
          have h1 := ih (l.erase n) (hd.erase n) (fun i hi => by
            have hne : i ≠ n := fun e => by subst e; exact absurd hi (hd.not_mem_erase)
            have := hb i (List.mem_of_mem_erase hi); omega)
          have h2 := List.length_erase (a := n) (l := l)
          split at h2 <;> omega
      have := hle n l hd this
      omega
    rcases Nat.lt_or_ge i n with h | h
    · have h1 := ih (l.erase n) (hd.erase n) (fun i hi => by
        have hne : i ≠ n := fun e => by subst e; exact absurd hi (hd.not_mem_erase)
        have := hb i (List.mem_of_mem_erase hi); omega) (by rw [List.length_erase_of_mem hn]; omega) i h
      exact List.mem_of_mem_erase h1
    · obtain rfl : i = n := by omega
      exact hn

section
variable {P : Program} {N : Fr} {En : Entry} {K : Post} {Q : Exit → Act → World → Prop} {lps : List Nat}

theorem compGs_get {dr : Bool} {ops : Array Oper} : ∀ {os : List Oper} {rs : List R}, compGs P N lps dr ops os = some rs → ∀ (i : Nat) (o : Oper), os[i]? = some o → compG P N lps dr ops o = some (rs.getD i default)
  | [], _, _, i, o, h => by simp at h
  | o' :: os, rs, hc, i, o, h => by
    simp only [compGs, Option.bind_eq_some_iff, Option.map_eq_some_iff] at hc
    obtain ⟨r, hr, rs', hrs, rfl⟩ := hc
    cases i with
    | zero => simp at h; subst h; simpa using hr
    | succ i => simpa using compGs_get hrs i o (by simpa using h)

theorem binds_of_any {md : Region.Mode} {e : Edge} (h : Region.binds .any e = true) : Region.binds md e = true := by
  unfold Region.binds at *
  split <;> simp_all

/-- whatever comes first of what may: the rest is as told. -/
theorem any_sound {ops : Array Oper} {rs : List R} {md : Region.Mode} {ro : Option Nat} {n : Nat} (hc : compGs P N lps true ops ops.toList = some rs)
    (hlow : ∀ (i : Nat) (o : Oper), ops[i]? = some o → ∀ e ∈ o.after, e.on < i) (htab : Tab ops.toList (ancTab ops.toList [])) (hq : ∀ a w, Nx N En K a w → Q .normal a w) :
    ∀ (fuel : Nat) (c : List Nat) (listed : Array Bool) {T : Nat → V} {L : Nat → Nat × List V} {s : H} {a : Act} {w : World}, listed.size = ops.size → c.length ≤ fuel → c.Nodup →
      (∀ i ∈ c, i < ops.size ∧ listed.getD i true = false) → (∀ i, i < ops.size → i ∉ c → listed.getD i false = true) →
      (∀ (k : Nat) (o : Oper), ops[k]? = some o → listed.getD k false = true → ∀ e ∈ o.after, Region.binds md e = true → listed.getD e.on false = true) →
      (c.Pairwise fun j i => ((ancTab ops.toList []).getD i 0).testBit j = true ∨ comm (rs.getD j default) (rs.getD i default) = true) →
      Ok N En T L s a w → wpRs P (c.map fun i => rs.getD i default) K T L s → wpAnyIn (FW ro) n P md ops Q fuel listed a w := by
  have getb : ∀ (listed : Array Bool) (i : Nat), listed.getD i true = false → listed.getD i false = false := by
    intro l i h
    rw [Array.getD_eq_getD_getElem?] at h ⊢
    cases hx : l[i]? <;> rw [hx] at h <;> simp_all
  intro fuel
  induction fuel with
  | zero =>
    intro c listed T L s a w hsz hle hnd hin hout hdc hpw hok hw
    obtain rfl : c = [] := List.eq_nil_of_length_eq_zero (by omega)
    refine ⟨?_, hq _ _ ⟨T, L, s, hok, by simpa only [List.map_nil, wpRs] using hw⟩⟩
    refine List.eq_nil_iff_forall_not_mem.2 fun i hi => ?_
    rw [mem_ready] at hi
    obtain ⟨h1, o, ho, _⟩ := hi
    have := hout i (Array.getElem?_eq_some_iff.1 ho).1 (by simp)
    rw [getb _ _ h1] at this; cases this
  | succ fuel ih =>
    intro c listed T L s a w hsz hle hnd hin hout hdc hpw hok hw
    have hready : ∀ (i : Nat), i ∈ c → ∃ j, j ∈ Region.ready md ops listed := by
      intro i
      induction i using Nat.strongRecOn with
      | _ i ihi =>
        intro hi
        refine Classical.byContradiction fun hno => ?_
        have h1 : i ∉ Region.ready md ops listed := fun h => hno ⟨i, h⟩
        rw [mem_ready] at h1
        obtain ⟨hlt, hli⟩ := hin i hi
        have ho : ops[i]? = some ops[i] := Array.getElem?_eq_getElem hlt
        refine h1 ⟨hli, _, ho, fun e he hb => ?_⟩
        refine Classical.byContradiction fun hne => ?_
        have hlow' := hlow i _ ho e he
        have hmem : e.on ∈ c := Classical.byContradiction fun hnm => hne (hout e.on (by omega) hnm)
        exact hno (ihi e.on hlow' hmem)
    refine ⟨fun hnil => ?_, fun i hi => ?_⟩
    · cases c with
      | nil => exact hq _ _ ⟨T, L, s, hok, by simpa only [List.map_nil, wpRs] using hw⟩
      | cons i c =>
        obtain ⟨j, hj⟩ := hready i (by simp)
        rw [hnil] at hj; cases hj
    · have hir := hi
      rw [mem_ready] at hi
      obtain ⟨hli, o, ho, hpre⟩ := hi
      have hlt : i < ops.size := (Array.getElem?_eq_some_iff.1 ho).1
      have hic : i ∈ c := Classical.byContradiction fun hnm => by
        have := hout i hlt hnm
        rw [getb _ _ hli] at this; cases this
      obtain ⟨c1, c2, rfl⟩ := List.append_of_mem hic
      -- who must come ahead has come
      have hanc : ∀ (k : Nat), (∀ (o : Oper), ops[k]? = some o → ∀ e ∈ o.after, Region.binds md e = true → listed.getD e.on false = true) → ∀ j, ((ancTab ops.toList []).getD k 0).testBit j = true → listed.getD j false = true := by
        intro k
        induction k using Nat.strongRecOn with
        | _ k ihk =>
          intro hk j hj
          cases hm : (ancTab ops.toList [])[k]? with
          | none => rw [List.getD_eq_getElem?_getD, hm] at hj; simp at hj
          | some m =>
            rw [List.getD_eq_getElem?_getD, hm] at hj
            obtain ⟨o', ho', e, he, hb, hx⟩ := htab k m hm j (by simpa using hj)
            have ho'' : ops[k]? = some o' := by simpa using ho'
            have hle := hk o' ho'' e (by simpa using he) (binds_of_any hb)
            rcases hx with rfl | ⟨hlt', hx⟩
            · exact hle
            · exact ihk e.on hlt' (fun o2 ho2 => hdc e.on o2 ho2 hle) j hx
      have hcomm : ∀ j ∈ c1, comm (rs.getD j default) (rs.getD i default) = true := by
        intro j hj
        have hp := (List.pairwise_append.1 hpw).2.2 j hj i (by simp)
        rcases hp with hp | hp
        · have h1 := hanc i (fun o2 ho2 => by rw [ho] at ho2; cases ho2; exact hpre) j hp
          have h2 := (hin j (by simp [hj])).2
          rw [getb _ _ h2] at h1; cases h1
        · exact hp
      have hfirst := first (P := P) (r := fun i => rs.getD i default) (K := K) c1 hcomm hw
      have hnext : ∀ a w, Nx N En (wpRs P ((c1 ++ c2).map fun i => rs.getD i default) K) a w → wpAnyIn (FW ro) n P md ops Q fuel (listed.setIfInBounds i true) a w := by
        rintro a w ⟨T', L', s', hok', hw'⟩
        have hnd' := List.nodup_append.1 hnd
        have hni : i ∉ c1 ++ c2 := by
          intro h
          rcases List.mem_append.1 h with h | h
          · exact hnd'.2.2 i h i (by simp) rfl
          · exact (List.nodup_cons.1 hnd'.2.1).1 h
        refine ih (c1 ++ c2) _ (by rw [Array.size_setIfInBounds]; exact hsz) (by simp at hle ⊢; omega) ?_ (fun k hk => ?_) (fun k hk hnk => ?_) (fun k ok hok hk e he hb => ?_) ?_ hok' hw'
        · exact hnd.sublist (List.Sublist.append (List.Sublist.refl _) (List.sublist_cons_self _ _))
        · have hne : i ≠ k := fun e => hni (e ▸ hk)
          have hk' : k ∈ c1 ++ i :: c2 := by
            rcases List.mem_append.1 hk with h | h
            · exact List.mem_append.2 (.inl h)
            · exact List.mem_append.2 (.inr (by simp [h]))
          rw [getD_set_ne true hne]
          exact hin k hk'
        · by_cases hki : k = i
          · subst hki
            rw [Array.getD_eq_getD_getElem?, Array.getElem?_setIfInBounds_self_of_lt (by omega)]; rfl
          · refine getD_set_true (hout k hk fun h => ?_)
            rcases List.mem_append.1 h with h | h
            · exact hnk (List.mem_append.2 (.inl h))
            · rcases List.mem_cons.1 h with h | h
              · exact hki h
              · exact hnk (List.mem_append.2 (.inr h))
        · by_cases hki : k = i
          · subst hki
            rw [ho] at hok; cases hok
            exact getD_set_true (hpre e he hb)
          · rw [getD_set_ne false (Ne.symm hki)] at hk
            exact getD_set_true (hdc k ok hok hk e he hb)
        · exact hpw.sublist (List.Sublist.append (List.Sublist.refl _) (List.sublist_cons_self _ _))
      have hcg := compGs_get hc i o (by simpa using ho)
      have := compG_in (Q := Q) (ro := ro) (n := n) hcg hok hfirst
      unfold wpOpIn
      simp only [ho]
      split
      · rename_i hwt
        rw [if_pos hwt] at this
        exact Oper.wpIn_mono hnext this
      · rename_i hwt
        rw [if_neg hwt] at this
        exact ⟨this.1, hnext _ _ this.2⟩

theorem draw_sound {id : Nat} {ops : Array Oper} {rs : List R} {ord : List Nat} {ro : Option Nat} {n : Nat} {T : Nat → V} {L : Nat → Nat × List V} {s : H} {a : Act} {w : World}
    (hc : compGs P N lps true ops ops.toList = some rs) (hd : okDraw ops.toList rs ord = true)
    (h : Ok N En T L s a w) (hw : wpRs P (ord.map fun i => rs.getD i default) K T L s) (hq : ∀ a w, Nx N En K a w → Q .normal a w) :
    (Code.region id ops true).wpIn (FW ro) n P Q a w := by
  simp only [okDraw, Bool.and_eq_true, beq_iff_eq, List.all_eq_true, decide_eq_true_eq, Array.length_toList] at hd
  obtain ⟨⟨⟨⟨h1, h2⟩, h3⟩, h4⟩, h5⟩ := hd
  have hok : Ok N En T L s a { w with drawn := w.drawn + 1 } := by
    obtain ⟨I, lb, hr, hs, hf⟩ := h
    have hs' : Sin I s w I s { w with drawn := w.drawn + 1 } := Sin.of_heap rfl rfl rfl rfl
    exact ⟨I, lb, hr.after hs' (hr.h.of_heap rfl), hs.trans hs', hf⟩
  have hlow : ∀ (i : Nat) (o : Oper), ops[i]? = some o → ∀ e ∈ o.after, e.on < i := fun i o ho e he => by
    refine h4 (o, i) ?_ e (by simpa using he)
    rw [List.mem_zipIdx_iff_getElem?]
    simpa using ho
  have key : ∀ md, wpAnyIn (FW ro) n P md ops Q ops.size (Array.replicate ops.size false) a { w with drawn := w.drawn + 1 } := fun md =>
    any_sound (md := md) (ro := ro) (n := n) hc hlow (ancTab_spec ops.toList ops.toList [] (by simp) (fun i m hi => by simp at hi)) hq ops.size ord _ (by simp) (by omega) (nodupB_spec h3)
      (fun i hi => ⟨h2 i hi, by have := h2 i hi; simp [Array.getD_eq_getD_getElem?, this]⟩)
      (fun i hi hn => absurd (all_mem ops.size ord (nodupB_spec h3) h2 h1 i hi) hn)
      (fun k o _ hk => by rw [Array.getD_eq_getD_getElem?] at hk; simp [Array.getElem?_replicate] at hk; split at hk <;> simp at hk)
      (okPairs_spec h5) hok hw
  refine wpIn_region_draw fun t => ?_
  unfold Region.schedule
  split
  · exact wpAnyIn_sound ops.size _ _ _ _ (key _)
  · exact wpAnyIn_sound ops.size _ _ _ _ (key _)

end

end Go.VL

/-
  VlMa: a range over a function: its record, its block of deferred calls.
-/
namespace Go.VL
open Go

def clean (T : Nat → V) : Nat → V := fun i => if keepable (T i) then T i else .any

def H.setY (s : H) (l : Nat) (y : Option Y) : H := { s with y := upd s.y l y }

section
variable {P : Program} {I I' : Nat → Nat → Prop} {s : H} {w : World}

theorem Keeps.putObj {l : Nat} {o : Obj} (hl : ∀ o, ¬ I l o) : Keeps I w I (w.putObj l o) := ⟨fun _ _ h => h, fun b x hi => by
  have hne : b ≠ l := fun e => hl x (e ▸ hi)
  simp only [World.cell?, World.putObj_heap_other hne]⟩

/-- an object that is no cells turns. -/
theorem RelH.putY {l : Nat} {y0 : Y} (h : RelH I s w) (hy : s.y l = some y0) (o : Obj) (y' : Option Y) (hn : ∀ y, y' = some y → RelY I (w.putObj l o) l y) : RelH I (s.setY l y') (w.putObj l o) := by
  obtain ⟨hy1, hy2⟩ := h.hy l y0 hy
  have hk : Keeps I w I (w.putObj l o) := .putObj hy2
  have hne : s.y l ≠ none := by rw [hy]; simp
  refine ⟨fun b cs hb => ?_, fun b n m hb => ?_, fun x hx => RVm.keeps hk _ _ _ (h.hg x hx), fun b x hi => by rw [World.putObj_size]; exact h.hi b x hi, fun b y hb => ?_⟩
  · obtain ⟨⟨vs, t, h1, h2⟩, h3⟩ := h.hc b cs hb
    have : b ≠ l := fun e => h.y_c (e ▸ hne) h1
    exact ⟨⟨vs, t, by rw [World.putObj_heap_other this]; exact h1, h2.keeps hk⟩, h3⟩
  · obtain ⟨h0, vs, t, h1, h2⟩ := h.hf b n m hb
    have : b ≠ l := fun e => h.y_c (e ▸ hne) h1
    exact ⟨h0, vs, t, by rw [World.putObj_heap_other this]; exact h1, h2⟩
  · simp only [H.setY, upd] at hb
    split at hb
    · rename_i e; subst e; exact ⟨hn y hb, hy2⟩
    · rename_i e
      obtain ⟨q1, q2⟩ := h.hy b y hb
      exact ⟨q1.keeps hk (World.putObj_heap_other e), q2⟩

theorem Sin.putY {l : Nat} {y0 : Y} (h : RelH I s w) (hy : s.y l = some y0) (o : Obj) (y' : Option Y) : Sin I s w I (s.setY l y') (w.putObj l o) := by
  obtain ⟨hy1, hy2⟩ := h.hy l y0 hy
  have hne : s.y l ≠ none := by rw [hy]; simp
  refine ⟨by rw [World.putObj_size]; exact Nat.le_refl _, .putObj hy2, fun _ _ h => .inl h, fun b hb => ?_, fun b hb _ => World.putObj_heap_other (fun e => hb (.inr (.inr (e ▸ hne)))), rfl, rfl, rfl⟩
  rcases hb with hb | hb | hb
  · exact .inl (.inl hb)
  · exact .inl (.inr (.inl hb))
  · simp only [H.setY, upd] at hb
    split at hb
    · rename_i e; exact .inl (.inr (.inr (e ▸ hne)))
    · exact .inl (.inr (.inr hb))

/-- an object that is there, and not owned, is owned. -/
theorem RelH.ownY {l : Nat} {y : Y} (h : RelH I s w) (hy : RelY I w l y) (hi : ∀ o, ¬ I l o) : RelH I (s.setY l (some y)) w :=
  ⟨h.hc, h.hf, h.hg, h.hi, fun b y' hb => by
    simp only [H.setY, upd] at hb
    split at hb
    · rename_i e; subst e; cases hb; exact ⟨hy, hi⟩
    · exact h.hy b y' hb⟩
theorem Sin.ownY {l : Nat} {y : Y} {I0 : Nat → Nat → Prop} {s0 : H} {w0 : World} (h : Sin I0 s0 w0 I s w) (hk : w0.heap.size ≤ l) : Sin I0 s0 w0 I (s.setY l (some y)) w :=
  ⟨h.size, h.keeps, h.new, fun b hb => by
    rcases hb with hb | hb | hb
    · exact h.own b (.inl hb)
    · exact h.own b (.inr (.inl hb))
    · simp only [H.setY, upd] at hb
      split at hb
      · rename_i e; exact .inr (by omega)
      · exact h.own b (.inr (.inr hb)), h.same, h.os, h.output, h.tape⟩

theorem fold_put : ∀ (ps : List Tmp) (args : List V) (cargs : List Value) (T : Nat → V) (tmps : Array Value), (∀ p ∈ ps, p < tmps.size) → args.length = ps.length → RVs I w args cargs →
    (∀ i, RV I w (T i) (tmps.getD i undef)) →
    (∀ i, RV I w ((ps.zip args).foldl (fun T (p : Nat × V) => upd T p.1 p.2) T i) (((ps.zip cargs).foldl (fun (t : Array Value) (p : Tmp × Value) => t.setIfInBounds p.1 p.2) tmps).getD i undef)) ∧
      ((ps.zip cargs).foldl (fun (t : Array Value) (p : Tmp × Value) => t.setIfInBounds p.1 p.2) tmps).size = tmps.size
  | [], args, cargs, T, tmps, _, _, _, h => by simpa using h
  | p :: ps, [], _, _, _, _, hl, _, _ => by simp at hl
  | p :: ps, v :: args, [], _, _, _, _, hv, _ => by simp only [RVs] at hv
  | p :: ps, v :: args, c :: cargs, T, tmps, hp, hl, hv, h => by
    simp only [RVs] at hv
    simp only [List.zip_cons_cons, List.foldl_cons]
    have := fold_put ps args cargs (upd T p v) (tmps.setIfInBounds p c) (by intro q hq; rw [Array.size_setIfInBounds]; exact hp q (by simp [hq])) (by simpa using hl) hv.2 (fun i => by
      simp only [upd]
      have hlt : p < tmps.size := hp p (by simp)
      by_cases e : i = p
      · subst e; rw [if_pos rfl]; simp [hlt]; exact hv.1
      · rw [if_neg e, Array.getD_eq_getD_getElem?, Array.getElem?_setIfInBounds_ne (fun h => e h.symm), ← Array.getD_eq_getD_getElem?]; exact h i)
    refine ⟨this.1, ?_⟩
    rw [this.2, Array.size_setIfInBounds]
end

/-- the slots at a round's head. -/
def roundT (T : Nat → V) (ps : List Nat) (args : List V) : Nat → V := (ps.zip args).foldl (fun T (p : Nat × V) => upd T p.1 p.2) T

end Go.VL

/-
  VlN: control; the contract of a function out of its walk.
-/
namespace Go.VL
open Go

/-- how a piece of code is left. -/
inductive XE where
  | normal
  | exit (id : Nat)
  | ret
  deriving DecidableEq

/-- a function's code, in the layer. -/
inductive SC where
  | skip
  | reg (rs : List R)
  | seq (x y : SC)
  | cond (c : X) (x y : SC)
  | block (id : Nat) (x : SC)
  | loop (x : SC)
  | exit (id : Nat)
  | ret
  | range (g : X) (n : Nat) (ps : Array Tmp) (asC bdC : Code)
  deriving Inhabited

section
variable (P : Program)
def wpS : SC → (XE → Post) → Post
  | .skip, Q => Q .normal
  | .reg rs, Q => wpRs P rs (Q .normal)
  | .seq x y, Q => wpS x fun e => match e with | .normal => wpS y Q | .exit id => Q (.exit id) | .ret => Q .ret
  | .cond c x y, Q => fun T L s => match c.ev T with
    | .bool t => if t = true then wpS x Q T L s else wpS y Q T L s
    | _ => False
  | .block id x, Q => wpS x fun e => match e with | .normal => Q .normal | .exit id' => if id' = id then Q .normal else Q (.exit id') | .ret => Q .ret
  | .loop x, Q => fun T L s => ∃ J : Nat → Post, (∃ n, J n T L s) ∧ ∀ n T L s, J n T L s →
      wpS x (fun e => match e with | .normal => fun T L s => ∃ m, m < n ∧ J m T L s | .exit id => Q (.exit id) | .ret => Q .ret) T L s
  | .exit id, Q => Q (.exit id)
  | .ret, Q => Q .ret
  | .range g n ps asC bdC, Q => fun T L s => match g.ev T with
    | .fn (.func f) [] ca => ∀ l D, s.c l = none → s.f l = none → s.y l = none →
        AC P f (.fn (.yield l) [] [] :: ca) (s.setY l (some (.loop .ready none (clean T) n ps asC bdC D))) fun _ s' =>
          ∃ st pend, s'.y l = some (.loop st pend (clean T) n ps asC bdC D) ∧ st ≠ .busy ∧
            match pend with
            | none => Q .normal T L (s'.setY l none)
            | some .ret => Q .ret T L (s'.setY l none)
            | some (.exit id) => Q (.exit id) T L (s'.setY l none)
            | some _ => False
    | _ => False
end

def compC (P : Program) (N : Nat) (lps : List Nat) : Code → Option SC
  | .skip => some .skip
  | .region _ ops draw => (compGs P N lps draw ops ops.toList).bind fun rs =>
    if draw then
      let ord := drawOrd ops.toList rs
      if okDraw ops.toList rs ord = true then some (.reg (ord.map fun i => rs.getD i default)) else none
    else some (.reg rs)
  | .seq x y => (compC P N lps x).bind fun x' => (compC P N lps y).map fun y' => .seq x' y'
  | .cond c x y => (cX c).bind fun c' => (compC P N lps x).bind fun x' => (compC P N lps y).map fun y' => .cond c' x' y'
  | .block id x => (compC P N lps x).map fun x' => .block id x'
  | .loop x => (compC P N lps x).map fun x' => .loop x'
  | .exit id => some (.exit id)
  | .ret => some .ret
  | .rangeFunc g ps asC bdC => if lps.contains 2000000 then (cX g).map fun g' => .range g' N ps asC bdC else none
  | _ => none

/-- results. -/
inductive RS where
  | t (i : Nat)
  | c (i n : Nat) (agg : Bool)
  deriving Inhabited, DecidableEq

def compRes (P : Program) : List ResultVar → Option (List RS)
  | [] => some []
  | .tmp t :: r => (compRes P r).map fun l => .t t :: l
  | .cell a ty :: r => (sizeOfT P ty).bind fun n => (aggOf P ty).bind fun g => (compRes P r).map fun l => .c a n g :: l

def resV (T : Nat → V) (L : Nat → Nat × List V) (s : H) : List RS → Option (List V)
  | [] => some []
  | .t i :: r => if keepable (T i) then (resV T L s r).map fun l => T i :: l else none
  | .c i n g :: r => match cellsAt false L s (T i) with
    | some (cs, o) => (takeV g n cs o).bind fun v => if keepable v then (resV T L s r).map fun l => v :: l else none
    | none => none

def tupV : List V → V
  | [v] => v
  | vs => .tup vs

def initT (args : List V) : Nat → V := fun i => args.getD i .any

section
variable {P : Program} {N : Fr} {En : Entry} {lps : List Nat}

/-- exits, as the machine has them. -/
def LQ (N : Fr) (En : Entry) (Q : XE → Post) : Exit → Act → World → Prop
  | .normal, a, w => Nx N En (Q .normal) a w
  | .exit id, a, w => Nx N En (Q (.exit id)) a w
  | .ret, a, w => Nx N En (Q .ret) a w
  | _, _, _ => False

/-- the mark of a range over a function stays. -/
theorem Marks.more (hmk : N.mky = true) {I : Nat → Nat → Prop} {s : H} {ds : List Deferred} {w : World} {D : Nat} (h : Marks N I s ds w) (h1 : w.heap[D]? = some (.deferred (some []))) (h2 : ¬ s.owned D) (h3 : N.base ≤ D) (h4 : ∀ o, ¬ I D o)
    (hnew : ∀ ms : List Nat, ds = ms.map markOf ++ N.D → D ∉ ms) : Marks N I s (markOf D :: ds) w := by
  obtain ⟨ms, q1, q2, q3⟩ := h
  exact ⟨D :: ms, by rw [q1]; rfl, ⟨fun e => (by rw [hmk] at e; cases e), List.nodup_cons.2 ⟨hnew ms q1, q2.2⟩⟩, fun D' hD => by
    rcases List.mem_cons.1 hD with e | hD
    · rw [e]; exact ⟨h1, h2, h3, h4⟩
    · exact q3 D' hD⟩

theorem range_sound {n : Nat} {g : Operand} {g' : X} {ps : Array Tmp} {asC bdC : Code} {Q : XE → Post} {T : Nat → V} {L : Nat → Nat × List V} {s : H} {a : Act} {w : World} (hro : N.ro = none) (hmk : N.mky = true) (hbase : En.w.heap.size = N.base) (hg : cX g = some g')
    (h : Ok N En T L s a w) (hw : wpS P (.range g' N ps asC bdC) Q T L s) : (Code.rangeFunc g ps asC bdC).wpIn (FW N.ro) n P (LQ N En Q) a w := by
  obtain ⟨I, lb, hr, hs, hf⟩ := h
  simp only [wpS] at hw
  split at hw
  case h_2 => exact hw.elim
  rename_i f ca e
  have hgv := cX_sound hg hr.t
  rw [e] at hgv
  simp only [RF, RV] at hgv
  obtain ⟨a1, a2, hga, hr1, hr2⟩ := hgv
  obtain rfl : a1 = #[] := by have := hr1.length; simpa using this.symm
  have fresh_c : s.c (w.heap.size + 1) = none := by
    cases hc : s.c (w.heap.size + 1) with
    | none => rfl
    | some cs => have := hr.h.lt_c hc; omega
  have fresh_f : s.f (w.heap.size + 1) = none := by
    cases hc : s.f (w.heap.size + 1) with
    | none => rfl
    | some cs => have := hr.h.lt_f hc; omega
  have fresh_y : s.y (w.heap.size + 1) = none := by
    cases hc : s.y (w.heap.size + 1) with
    | none => rfl
    | some cs => have := hr.h.lt_y (b := w.heap.size + 1) (by rw [hc]; simp); omega
  have hac := hw (w.heap.size + 1) w.heap.size fresh_c fresh_f fresh_y
  refine wpIn_rangeFunc ?_
  intro fn hfn
  rw [FW_round, hro]
  obtain ⟨W0, hW0⟩ : ∃ W0, w.alloc (.deferred (some [])) = W0 := ⟨_, rfl⟩
  obtain ⟨W1, hW1⟩ : ∃ W1, W0.alloc (.loop { state := .ready, pending := none, fn := fn, tmps := a.tmps, params := ps, assign := asC, body := bdC, defers := w.heap.size }) = W1 := ⟨_, rfl⟩
  have z0 : W0.heap.size = w.heap.size + 1 := by rw [← hW0]; simp
  have z1 : W1.heap.size = w.heap.size + 2 := by rw [← hW1]; simp [z0]
  have k0 : W0.heap[w.heap.size]? = some (.deferred (some [])) := by rw [← hW0]; exact alloc_new
  have k1 : W1.heap[w.heap.size]? = some (.deferred (some [])) := by rw [← hW1, alloc_old (by omega)]; exact k0
  have k2 : W1.heap[w.heap.size + 1]? = some (.loop { state := .ready, pending := none, fn := fn, tmps := a.tmps, params := ps, assign := asC, body := bdC, defers := w.heap.size }) := by rw [← hW1, ← z0]; exact alloc_new
  -- the two new blocks
  have hh0 : RelH I s W0 := by rw [← hW0]; exact hr.h.alloc (fun _ _ h => h) (fun _ _ h => .inl h)
  have hs0 : Sin I s w I s W0 := by rw [← hW0]; exact Sin.alloc hr.h (fun _ _ h => h) (fun _ _ h => .inl h)
  have hh1 : RelH I s W1 := by rw [← hW1]; exact hh0.alloc (fun _ _ h => h) (fun _ _ h => .inl h)
  have hs1 : Sin I s w I s W1 := by rw [← hW1]; exact hs0.trans (Sin.alloc hh0 (fun _ _ h => h) (fun _ _ h => .inl h))
  have hIn : ∀ b o, w.heap.size ≤ b → ¬ I b o := fun b o hb hi => by have := hr.h.hi b o hi; omega
  have hrecY : RelY I W1 (w.heap.size + 1) (.loop .ready none (clean T) N ps asC bdC w.heap.size) := by
    simp only [RelY]
    refine ⟨fn, a.tmps, k2, hr.n, fun i => ?_⟩
    simp only [clean]
    split
    · rename_i hk
      exact RV.keeps hs1.keeps _ _ (RF.rv hk (hr.t i))
    · simp only [RV]
  have hh2 := hh1.ownY hrecY (fun o => hIn _ o (by omega))
  have hs2 : Sin I s w I (s.setY (w.heap.size + 1) (some (.loop .ready none (clean T) N ps asC bdC w.heap.size))) W1 := Sin.ownY hs1 (by omega)
  refine ⟨w.heap.size + 1, [markOf w.heap.size], W1, { target := .fn (.func f) a2, args := #[Value.func (.yield (w.heap.size + 1)) #[] #[]] }, W1, f, #[Value.func (.yield (w.heap.size + 1)) #[] #[]] ++ a2, W1, ?_, ?_, fun f' _ => FW_fn _ f', ?_, fun h => FW_depth _ h, callsIn_FW.2 ?_⟩
  · rw [← hW1, ← hW0]; exact run_enterLoop_outer _ _ _ _ _
  · simp only [resolve, hga]
    simp [Deferred.ofValue]
    rfl
  · have := run_enter (P := P) (args := #[Value.func (.yield (w.heap.size + 1)) #[] #[]] ++ a2) hac.1 W1
    simpa [invoke] using this
  have hrv : RVs I W1 (.fn (.yield (w.heap.size + 1)) [] [] :: ca) (#[Value.func (.yield (w.heap.size + 1)) #[] #[]] ++ a2).toList := by
    simp only [Array.toList_append, List.cons_append, List.nil_append, RVs, RV]
    exact ⟨⟨#[], #[], rfl, by simp [RVs], by simp [RVs]⟩, RVs.keeps hs1.keeps _ _ hr2⟩
  refine (hac.2 I W1 _ hh2 hrv).mono ?_
  rintro e w' ⟨v, r, I', s', rfl, hsin, hh, _, st, pend, hy, hst, hQ⟩
  simp only [rangePost]
  obtain ⟨hy1, hy2⟩ := hh.hy _ _ hy
  simp only [RelY] at hy1
  obtain ⟨fn', tmps', hl, _, _⟩ := hy1
  refine ⟨pend, _, run_endLoop hl (by simpa using hst), ?_⟩
  generalize hW4 : w'.putObj (w.heap.size + 1) (.loop { state := .exhausted, pending := pend, fn := fn', tmps := tmps', params := ps, assign := asC, body := bdC, defers := w.heap.size }) = w4
  have hh4 : RelH I' (s'.setY (w.heap.size + 1) none) w4 := by rw [← hW4]; exact hh.putY hy _ none (fun y e => by cases e)
  have hs4 : Sin I' s' w' I' (s'.setY (w.heap.size + 1) none) w4 := by rw [← hW4]; exact Sin.putY hh hy _ none
  have hsa := (hs2.trans hsin).trans hs4
  have hrel4 := hr.after hsa hh4
  -- the block of deferred calls lies as it lay
  have hnoD : ¬ (s.setY (w.heap.size + 1) (some (.loop .ready none (clean T) N ps asC bdC w.heap.size))).owned w.heap.size := by
    intro ho
    rcases ho with ho | ho | ho
    · have := hr.h.lt (.inl ho); omega
    · have := hr.h.lt (.inr (.inl ho)); omega
    · simp only [H.setY, upd] at ho
      rw [if_neg (by omega)] at ho
      have := hr.h.lt (.inr (.inr ho)); omega
  have d1 : w'.heap[w.heap.size]? = some (.deferred (some [])) := by rw [hsin.same _ hnoD (by omega)]; exact k1
  have d2 : ¬ s'.owned w.heap.size := fun ho => by
    rcases hsin.own _ ho with h | h
    · exact hnoD h
    · omega
  have d3 : ¬ (s'.setY (w.heap.size + 1) none).owned w.heap.size := fun ho => by
    rcases hs4.own _ ho with h | h
    · exact d2 h
    · have := hsin.size; omega
  have d4 : w4.heap[w.heap.size]? = some (.deferred (some [])) := by rw [hs4.same _ d2 (by have := hsin.size; omega)]; exact d1
  have d5 : ∀ o, ¬ I' w.heap.size o := fun o hi => by
    rcases hsin.new _ _ hi with h | h | h
    · exact hIn _ o (Nat.le_refl _) h
    · exact hnoD h
    · omega
  have hok : Ok N En T L (s'.setY (w.heap.size + 1) none) { a with defers := [markOf w.heap.size] ++ a.defers } w4 := by
    refine ⟨I', lb, ⟨hrel4.h, hrel4.t, hrel4.n, ?_, hrel4.u, hrel4.l, hrel4.j⟩, hs.trans hsa, hf⟩
    refine hrel4.d.more hmk d4 d3 (by rw [← hbase]; exact hs.size) d5 ?_
    intro ms hms hD
    obtain ⟨ms', q1, q2, q3⟩ := hr.d
    have : ms.map markOf = ms'.map markOf := List.append_cancel_right (hms.symm.trans q1)
    have hinj : ∀ x y : Nat, markOf x = markOf y → x = y := by
      intro x y hxy; simp only [markOf, Deferred.mk.injEq, Target.collected.injEq] at hxy; exact hxy.1
    have hmm : ms = ms' := (List.map_inj_right hinj).1 this
    rw [hmm] at hD
    have := (Array.getElem?_eq_some_iff.1 (q3 _ hD).1).1
    omega
  cases pend with
  | none => exact ⟨T, L, _, hok, hQ⟩
  | some c =>
    cases c with
    | ret => exact wpIn_ret ⟨T, L, _, hok, hQ⟩
    | exit id => exact wpIn_exit ⟨T, L, _, hok, hQ⟩
    | _ => exact hQ.elim

theorem wpS_sound {n : Nat} (hro : lps.contains 2000000 = true → N.ro = none ∧ N.mky = true) (hbase : En.w.heap.size = N.base) : ∀ (c : Code) {sc : SC} {Q : XE → Post} {T : Nat → V} {L : Nat → Nat × List V} {s : H} {a : Act} {w : World}, compC P N lps c = some sc → Ok N En T L s a w → wpS P sc Q T L s →
    c.wpIn (FW N.ro) n P (LQ N En Q) a w
  | .skip, sc, Q, T, L, s, a, w, hc, h, hw => by
    simp only [compC, Option.some.injEq] at hc; subst hc
    exact wpIn_skip ⟨T, L, s, h, hw⟩
  | .region id ops draw, sc, Q, T, L, s, a, w, hc, h, hw => by
    simp only [compC, Option.bind_eq_some_iff] at hc
    obtain ⟨rs, hrs, hc⟩ := hc
    cases draw with
    | true =>
      simp only [if_true] at hc
      split at hc
      · rename_i hd
        cases hc
        exact draw_sound hrs hd h hw fun a w h => h
      · cases hc
    | false =>
      simp only [Bool.false_eq_true, if_false, Option.some.injEq] at hc
      subst hc
      exact region_sound hrs h hw fun a w h => h
  | .seq x y, sc, Q, T, L, s, a, w, hc, h, hw => by
    simp only [compC, Option.bind_eq_some_iff, Option.map_eq_some_iff] at hc
    obtain ⟨x', hx, y', hy, rfl⟩ := hc
    simp only [wpS] at hw
    refine wpIn_seq (wpIn_mono (wpS_sound hro hbase x hx h hw) fun e a w he => ?_)
    cases e with
    | normal =>
      obtain ⟨T', L', s', h', hw'⟩ := he
      exact wpS_sound hro hbase y hy h' hw'
    | exit id => exact he
    | ret => exact he
    | _ => exact he.elim
  | .cond c x y, sc, Q, T, L, s, a, w, hc, h, hw => by
    simp only [compC, Option.bind_eq_some_iff, Option.map_eq_some_iff] at hc
    obtain ⟨c', hcc, x', hx, y', hy, rfl⟩ := hc
    simp only [wpS] at hw
    split at hw
    · rename_i t ht
      have h1 : a.eval c = .bool t := by
        obtain ⟨I, lb, hr, _⟩ := h
        have := cX_sound hcc hr.t
        rw [ht] at this
        simpa only [RF, RV] using this
      exact wpIn_cond_split h1 (fun e => wpS_sound hro hbase x hx h (by rwa [if_pos e] at hw)) (fun e => wpS_sound hro hbase y hy h (by rwa [if_neg (by simp [e])] at hw))
    · exact hw.elim
  | .block id x, sc, Q, T, L, s, a, w, hc, h, hw => by
    simp only [compC, Option.map_eq_some_iff] at hc
    obtain ⟨x', hx, rfl⟩ := hc
    simp only [wpS] at hw
    refine wpIn_block (wpIn_mono (wpS_sound hro hbase x hx h hw) fun e a w he => ?_)
    cases e with
    | normal => exact he
    | exit id' =>
      obtain ⟨T', L', s', h', hw'⟩ := he
      simp only [Exit.inBlock]
      split
      · rename_i e; simp only [e, if_true] at hw'; exact ⟨T', L', s', h', hw'⟩
      · rename_i e; simp only [e, if_false] at hw'; exact ⟨T', L', s', h', hw'⟩
    | ret => exact he
    | _ => exact he.elim
  | .loop x, sc, Q, T, L, s, a, w, hc, h, hw => by
    simp only [compC, Option.map_eq_some_iff] at hc
    obtain ⟨x', hx, rfl⟩ := hc
    simp only [wpS] at hw
    obtain ⟨J, hj0, hround⟩ := hw
    -- rounds, by how many there may be
    have key : ∀ m, ∀ T L s a w, Ok N En T L s a w → J m T L s → ∀ (b : Frame) (k : List Item) (cs : List Frame), b.roundOf = (FW N.ro).round → (FW N.ro).fn b.fn → (FW N.ro).room (cs.length + 1 + n) →
        ∃ e a' w', LQ N En Q e a' w' ∧ ArrivesIn (Machine.fenced P (FW N.ro)) P (lone (b.atR a (.code (.loop x) :: k)) cs w) b k cs e a' w' := by
      intro m T L s a w h hj
      refine wpIn_loop (F := FW N.ro) (n := n) (P := P) (c := x) (Q := LQ N En Q) (fun a w => ∃ m T L s, Ok N En T L s a w ∧ J m T L s)
        (fun a w => (Classical.epsilon fun m => (∃ T L s, Ok N En T L s a w ∧ J m T L s) ∧ ∀ m', (∃ T L s, Ok N En T L s a w ∧ J m' T L s) → m ≤ m')) ⟨m, T, L, s, h, hj⟩ ?_
      rintro a w ⟨m0, h0⟩
      have least : ∀ (p : Nat → Prop), (∃ m, p m) → ∃ m, p m ∧ ∀ m', p m' → m ≤ m' := by
        intro p ⟨m, hm⟩
        induction m using Nat.strongRecOn with
        | _ m ih =>
          by_cases hx : ∃ m', m' < m ∧ p m'
          · obtain ⟨m', h1, h2⟩ := hx; exact ih m' h1 h2
          · exact ⟨m, hm, fun m' h' => Nat.le_of_not_lt fun hlt => hx ⟨m', hlt, h'⟩⟩
      have hp := Classical.epsilon_spec (least (fun m => ∃ T L s, Ok N En T L s a w ∧ J m T L s) ⟨m0, h0⟩)
      obtain ⟨⟨T, L, s, h, hj⟩, hmin⟩ := hp
      refine wpIn_mono (wpS_sound hro hbase x hx h (hround _ T L s hj)) fun e a' w' he => ?_
      cases e with
      | normal =>
        obtain ⟨T', L', s', h', m', hlt, hj'⟩ := he
        refine ⟨⟨m', T', L', s', h', hj'⟩, ?_⟩
        have hp' := Classical.epsilon_spec (least (fun m => ∃ T L s, Ok N En T L s a' w' ∧ J m T L s) ⟨m', T', L', s', h', hj'⟩)
        exact Nat.lt_of_le_of_lt (hp'.2 m' ⟨T', L', s', h', hj'⟩) hlt
      | exit id => exact he
      | ret => exact he
      | _ => exact he.elim
    obtain ⟨m, hm⟩ := hj0
    exact key m T L s a w h hm
  | .exit id, sc, Q, T, L, s, a, w, hc, h, hw => by
    simp only [compC, Option.some.injEq] at hc; subst hc
    exact wpIn_exit ⟨T, L, s, h, hw⟩
  | .ret, sc, Q, T, L, s, a, w, hc, h, hw => by
    simp only [compC, Option.some.injEq] at hc; subst hc
    exact wpIn_ret ⟨T, L, s, h, hw⟩
  | .rangeFunc g ps asC bdC, sc, Q, T, L, s, a, w, hc, h, hw => by
    simp only [compC] at hc
    split at hc
    case isFalse => cases hc
    rename_i hflag
    simp only [Option.map_eq_some_iff] at hc
    obtain ⟨g', hg, rfl⟩ := hc
    obtain ⟨hro, hmk⟩ := hro hflag
    exact range_sound hro hmk hbase hg h (by simpa only [wpS] using hw)
  | .scope _, sc, Q, T, L, s, a, w, hc, h, hw => by simp [compC] at hc
  | .label _, sc, Q, T, L, s, a, w, hc, h, hw => by simp [compC] at hc
  | .goto _, sc, Q, T, L, s, a, w, hc, h, hw => by simp [compC] at hc
  | .refuse _, sc, Q, T, L, s, a, w, hc, h, hw => by simp [compC] at hc

/-- one result. -/
def resOf (tmps : Array Value) (x : ResultVar) : Sem Value :=
  match x with
  | .tmp t => pure (tmps.getD t undef)
  | .cell ad t => do loadVar t (← asAddr (tmps.getD ad undef))

theorem results_eq (fn : Func) (tmps : Array Value) : results fn tmps = (do let vs ← fn.results.mapM (resOf tmps); pure (if h : vs.size = 1 then vs[0] else .tuple vs)) := rfl

/-- what results read as. -/
theorem res_sound {T : Nat → V} {L : Nat → Nat × List V} {s : H} {a : Act} {w : World} {I : Nat → Nat → Prop} {lb : Nat → Nat × Nat} (hr : Rel N I s T L lb a w) :
    ∀ (l : List ResultVar) {rs : List RS} {vs : List V}, compRes P l = some rs → resV T L s rs = some vs →
      ∃ cs : List Value, (l.mapM (resOf a.tmps)).run P w = .ok cs w ∧ RVs I w vs cs
  | [], rs, vs, hc, hv => by
    simp only [compRes, Option.some.injEq] at hc; subst hc
    simp only [resV, Option.some.injEq] at hv; subst hv
    exact ⟨[], by simp, by simp only [RVs]⟩
  | .tmp t :: l, rs, vs, hc, hv => by
    simp only [compRes, Option.map_eq_some_iff] at hc
    obtain ⟨rs', hrs, rfl⟩ := hc
    simp only [resV] at hv
    split at hv
    · rename_i hk
      simp only [Option.map_eq_some_iff] at hv
      obtain ⟨vs', hvs, rfl⟩ := hv
      obtain ⟨cs, h1, h2⟩ := res_sound hr l hrs hvs
      exact ⟨a.tmps.getD t undef :: cs, by simp only [List.mapM_cons, resOf, Sem.run_bind, Sem.run_pure, Result.andThen_ok, h1], by simp only [RVs]; exact ⟨RF.rv hk (hr.t t), h2⟩⟩
    · cases hv
  | .cell ad t :: l, rs, vs, hc, hv => by
    simp only [compRes, Option.bind_eq_some_iff, Option.map_eq_some_iff] at hc
    obtain ⟨n, hn, g, hg, rs', hrs, rfl⟩ := hc
    simp only [resV] at hv
    split at hv
    · rename_i cells o hcs
      simp only [Option.bind_eq_some_iff] at hv
      obtain ⟨v, hv1, hv⟩ := hv
      split at hv
      · rename_i hk
        simp only [Option.map_eq_some_iff] at hv
        obtain ⟨vs', hvs, rfl⟩ := hv
        obtain ⟨cs, h1, h2⟩ := res_sound hr l hrs hvs
        obtain ⟨b, base, hcv, hm⟩ := hr.mem (hr.t ad) hcs
        obtain ⟨cv, h3, h4⟩ := gives_load (lb := lb) hg hn hm hv1
        refine ⟨cv :: cs, ?_, by simp only [RVs]; exact ⟨RF.rv hk h4, h2⟩⟩
        have h5 : (loadVar t ⟨b, base + o, none⟩).run P w = .ok cv w := by
          simpa [Instr.loadAt, Instr.sureAddr] using h3
        simp only [List.mapM_cons, resOf, Sem.run_bind, Result.andThen_ok, hcv, asAddr, Sem.run_pure, h5, h1]
      · cases hv
    · cases hv

theorem resV_length {T : Nat → V} {L : Nat → Nat × List V} {s : H} : ∀ {rs : List RS} {vs : List V}, resV T L s rs = some vs → vs.length = rs.length
  | [], vs, h => by simp only [resV, Option.some.injEq] at h; subst h; rfl
  | .t i :: rs, vs, h => by
    simp only [resV] at h
    split at h
    · simp only [Option.map_eq_some_iff] at h
      obtain ⟨l, hl, rfl⟩ := h
      simp [resV_length hl]
    · cases h
  | .c i n g :: rs, vs, h => by
    simp only [resV] at h
    split at h
    · simp only [Option.bind_eq_some_iff] at h
      obtain ⟨v, _, h⟩ := h
      split at h
      · simp only [Option.map_eq_some_iff] at h
        obtain ⟨l, hl, rfl⟩ := h
        simp [resV_length hl]
      · cases h
    · cases h

theorem results_sound {fn : Func} {T : Nat → V} {L : Nat → Nat × List V} {s : H} {a : Act} {w : World} {I : Nat → Nat → Prop} {lb : Nat → Nat × Nat} (hr : Rel N I s T L lb a w)
    {rs : List RS} {vs : List V} (hc : compRes P fn.results.toList = some rs) (hv : resV T L s rs = some vs) : ∃ cv, (results fn a.tmps).run P w = .ok cv w ∧ RV I w (tupV vs) cv := by
  obtain ⟨cs, h1, h2⟩ := res_sound hr _ hc hv
  have hl := h2.length
  have h3 : (fn.results.mapM (resOf a.tmps)).run P w = .ok cs.toArray w := by
    rw [Array.mapM_eq_mapM_toList, map_eq_pure_bind]
    simp only [Sem.run_bind, h1, Result.andThen_ok, Sem.run_pure]
  rw [results_eq]
  simp only [Sem.run_bind, h3, Result.andThen_ok, Sem.run_pure]
  match vs, cs, hl, h2 with
  | [v], [c], _, h2 => exact ⟨c, by simp, by simp only [RVs] at h2; exact h2.1⟩
  | [], [], _, h2 => exact ⟨.tuple #[], by simp, by simp only [tupV, RV]; exact ⟨_, rfl, by simpa using h2⟩⟩
  | v1 :: v2 :: vs, c1 :: c2 :: cs, _, h2 => exact ⟨.tuple (c1 :: c2 :: cs).toArray, by simp, by simp only [tupV, RV]; exact ⟨_, rfl, by simpa using h2⟩⟩

/-- what a function's walk is asked. -/
def bodyQ (rs : List RS) (Q : V → H → Prop) : XE → Post
  | .exit _ => fun _ _ _ => False
  | _ => fun T L s => ∃ vs, resV T L s rs = some vs ∧ Q (tupV vs) s

theorem init_ok {I : Nat → Nat → Prop} {w : World} {s : H} {args : List V} {cargs : Array Value} {n : Nat} {ro : Option Nat} {base : Nat} {mky : Bool} (hh : RelH I s w) (hv : RVs I w args cargs.toList) (hn : args.length ≤ n) :
    Ok { n := n, D := [], ro := ro, base := base, mky := mky } ⟨I, s, w⟩ (initT args) (fun _ => (0, [])) s { tmps := cargs ++ Array.replicate (n - cargs.size) undef, defers := [] } w := by
  have hl := hv.length
  simp only [Array.length_toList] at hl
  refine ⟨I, fun _ => (0, 0), ⟨hh, fun i => ?_, by simp; omega, ⟨[], rfl, ⟨fun _ => rfl, .nil⟩, fun _ h => by cases h⟩, fun _ => rfl, fun k hk => absurd rfl hk, fun k _ hk => absurd rfl hk⟩, .refl _ _ _, fun k hk => absurd rfl hk⟩
  simp only [initT, List.getD_eq_getElem?_getD]
  cases hx : args[i]? with
  | none => simp only [Option.getD_none, RF, RV]
  | some v =>
    obtain ⟨c, hc, hrv⟩ := hv.get hx
    have h1 : (cargs ++ Array.replicate (n - cargs.size) undef).getD i undef = c := by
      have hlt : i < cargs.size := by
        have := (List.getElem?_eq_some_iff.1 hc).1
        simpa using this
      rw [Array.getD_eq_getD_getElem?, Array.getElem?_append_left hlt, ← Array.getElem?_toList, hc]; rfl
    rw [h1]
    exact RF.of_rv hrv

/-- a mark is come to: the block is shut. -/
theorem Rel.take {I : Nat → Nat → Prop} {s : H} {T : Nat → V} {L : Nat → Nat × List V} {lb : Nat → Nat × Nat} {a : Act} {w : World} (hr : Rel N I s T L lb a w) {D : Nat} {ms : List Nat} (hD : a.defers = (D :: ms).map markOf ++ N.D) :
    w.heap[D]? = some (.deferred (some [])) ∧ Rel N I s T L lb { a with defers := ms.map markOf ++ N.D } (w.putObj D (.deferred none)) ∧ (∀ o, ¬ I D o) ∧ N.base ≤ D := by
  obtain ⟨ms', q1, q2, q3⟩ := hr.d
  have hinj : ∀ x y : Nat, markOf x = markOf y → x = y := by
    intro x y hxy; simp only [markOf, Deferred.mk.injEq, Target.collected.injEq] at hxy; exact hxy.1
  have hmm : D :: ms = ms' := (List.map_inj_right hinj).1 (List.append_cancel_right (hD.symm.trans q1))
  subst hmm
  obtain ⟨d1, d2, d3, d4⟩ := q3 D (by simp)
  have hk : Keeps I w I (w.putObj D (.deferred none)) := .putObj d4
  have hne : ∀ {b : Nat} {o : Obj}, w.heap[b]? = some o → (∀ x, o ≠ .deferred x) → b ≠ D := fun hb ho e => by
    rw [e, d1] at hb; cases hb; exact ho _ rfl
  refine ⟨d1, ⟨⟨fun b cs hb => ?_, fun b n m hb => ?_, fun x hx => RVm.keeps hk _ _ _ (hr.h.hg x hx), fun b x hi => by rw [World.putObj_size]; exact hr.h.hi b x hi, ?_⟩, fun i => RF.keeps hk (hr.t i), hr.n, ?_, hr.u, fun k hk' => ?_, hr.j⟩, d4, d3⟩
  · obtain ⟨⟨vs, t, h1, h2⟩, h3⟩ := hr.h.hc b cs hb
    exact ⟨⟨vs, t, by rw [World.putObj_heap_other (hne h1 (by simp))]; exact h1, h2.keeps hk⟩, h3⟩
  · obtain ⟨h0, vs, t, h1, h2⟩ := hr.h.hf b n m hb
    exact ⟨h0, vs, t, by rw [World.putObj_heap_other (hne h1 (by simp))]; exact h1, h2⟩
  · exact hr.h.yes hk (fun b hb => World.putObj_heap_other (fun e => d2 (.inr (.inr (e ▸ hb))))) (fun _ _ _ h => h)
  · refine ⟨ms, rfl, ⟨fun e => (by have := q2.1 e; cases this), (List.nodup_cons.1 q2.2).2⟩, fun D' hD' => ?_⟩
    obtain ⟨e1, e2, e3, e4⟩ := q3 D' (by simp [hD'])
    have : D' ≠ D := fun e => (List.nodup_cons.1 q2.2).1 (e ▸ hD')
    exact ⟨by rw [World.putObj_heap_other this]; exact e1, e2, e3, e4⟩
  · obtain ⟨⟨vs, t, h1, h2⟩, h3⟩ := hr.l k hk'
    exact ⟨⟨vs, t, by rw [World.putObj_heap_other (hne h1 (by simp))]; exact h1, RVs.keeps hk _ _ h2⟩, h3⟩

theorem Sin.take {I0 I : Nat → Nat → Prop} {s0 s : H} {w0 w : World} {D : Nat} {o : Obj} (hs : Sin I0 s0 w0 I s w) (hb : w0.heap.size ≤ D) (hi : ∀ o, ¬ I D o) : Sin I0 s0 w0 I s (w.putObj D o) :=
  hs.fresh hb (.putObj hi) (by simp) (fun b' hb' => World.putObj_heap_other hb') rfl rfl rfl

/-- a frame without deferred calls leaves: marks are come to, then results are read. -/
theorem leaves_marks {fn : Func} {rs : List RS} {I0 : Nat → Nat → Prop} {s0 : H} {w0 : World} {Q : V → H → Prop} (hres : compRes P fn.results.toList = some rs) (hbase : w0.heap.size = N.base) (hND : N.D = []) : ∀ (ms : List Nat) {I : Nat → Nat → Prop} {s : H} {T : Nat → V} {L : Nat → Nat × List V} {lb : Nat → Nat × Nat} {a : Act} {w : World},
    Rel N I s T L lb a w → Sin I0 s0 w0 I s w → a.defers = ms.map markOf → (∃ vs, resV T L s rs = some vs ∧ Q (tupV vs) s) →
    LeavesInM (FW none) 0 P fn a.tmps (fun e w' => ∃ v' r I' s', e = .returned v' ∧ Sin I0 s0 w0 I' s' w' ∧ RelH I' s' w' ∧ RV I' w' r v' ∧ Q r s') a.defers .returning w
  | [], I, s, T, L, lb, a, w, hr, hs, hd, ⟨vs, hvs, hq⟩ => by
    obtain ⟨cv, h1, h2⟩ := results_sound hr hres hvs
    rw [hd]
    simp only [List.map_nil, LeavesInM, LeavesIn]
    exact ⟨cv, h1, cv, tupV vs, I, s, rfl, hs, hr.h, h2, hq⟩
  | D :: ms, I, s, T, L, lb, a, w, hr, hs, hd, hq => by
    obtain ⟨t1, t2, t3, t4⟩ := hr.take (D := D) (ms := ms) (by rw [hd, hND]; simp)
    have := leaves_marks hres hbase hND ms t2 (hs.take (by omega) t3) (by simp [hND]) hq
    rw [hd]
    simp only [List.map_cons, LeavesInM]
    refine ⟨by simp, .inl ⟨D, _, rfl, run_takeDeferred t1, ?_⟩⟩
    simpa [hND] using this

/-- THE CONTRACT OF A FUNCTION, out of its walk. -/
theorem ac_of_wpS {f : Nat} {fn : Func} {c : Code} {sc : SC} {rs : List RS} {args : List V} {s : H} {Q : V → H → Prop} (lps : List Nat) (hf : P.funcs[f]? = some fn) (hb : fn.body = some c)
    (hok : okFn P f = true) (hc : compC P fn.ntmps lps c = some sc) (hr : compRes P fn.results.toList = some rs) (hn : args.length ≤ fn.ntmps)
    (hw : wpS P sc (bodyQ rs Q) (initT args) (fun _ => (0, [])) s) : AC P f args s Q := by
  refine ⟨hok, fun I w cargs hh hv => ?_⟩
  have h0 := init_ok (n := fn.ntmps) (ro := none) (base := w.heap.size) (mky := true) hh hv hn
  have := wpS_sound (n := 0) (fun _ => ⟨rfl, rfl⟩) rfl c hc h0 hw
  refine callsIn_FW (ro := none) (n := 0) |>.1 (callsIn_of_wp_marks hf hb trivial (wpIn_mono this fun e a w' he => ?_))
  have fin : ∀ {a : Act} {w' : World}, Nx { n := fn.ntmps, base := w.heap.size, mky := true } ⟨I, s, w⟩ (fun T L s => ∃ vs, resV T L s rs = some vs ∧ Q (tupV vs) s) a w' →
      LeavesInM (FW none) 0 P fn a.tmps (fun e w' => ∃ v' r I' s', e = .returned v' ∧ Sin I s w I' s' w' ∧ RelH I' s' w' ∧ RV I' w' r v' ∧ Q r s') a.defers .returning w' := by
    rintro a w' ⟨T, L, s', ⟨I', lb, hrel, hs, _⟩, hq⟩
    obtain ⟨ms, q1, _⟩ := hrel.d
    exact leaves_marks hr rfl rfl ms hrel hs (by simpa using q1) hq
  cases e with
  | normal => exact fin he
  | ret => exact fin he
  | exit id => obtain ⟨_, _, _, _, h⟩ := he; exact h.elim
  | _ => exact he.elim

end

end Go.VL

/-
  VlNa: a round of a range over a function, out of its body's walk.
-/
namespace Go.VL
open Go

/-- the range over a function in a function's code: what it assigns, its body. -/
def rfPart : Code → Option (Code × Code)
  | .rangeFunc _ _ a b => some (a, b)
  | .seq a b => (rfPart a).or (rfPart b)
  | .cond _ a b => (rfPart a).or (rfPart b)
  | .block _ a => rfPart a
  | .loop a => rfPart a
  | .scope a => rfPart a
  | _ => none
def rfAs (f : Func) : Code := ((f.body.bind rfPart).map (·.1)).getD .skip
def rfBd (f : Func) : Code := ((f.body.bind rfPart).map (·.2)).getD .skip

/-- how a round is left: what yield hands back, and what the record says then. -/
def roundQ (l : Nat) (T0 : Nat → V) (n : Nat) (ps : Array Tmp) (asC bdC : Code) (D : Nat) (Q : V → H → Prop) : XE → Post
  | .normal => fun _ _ s => s.y l = some (.loop .busy none T0 n ps asC bdC D) ∧ Q (.bool true) (s.setY l (some (.loop .ready none T0 n ps asC bdC D)))
  | .ret => fun _ _ s => s.y l = some (.loop .busy none T0 n ps asC bdC D) ∧ Q (.bool false) (s.setY l (some (.loop .done (some .ret) T0 n ps asC bdC D)))
  | .exit id => fun _ _ s => s.y l = some (.loop .busy none T0 n ps asC bdC D) ∧ Q (.bool false) (s.setY l (some (.loop .done (some (.exit id)) T0 n ps asC bdC D)))

theorem RelY.turn {I : Nat → Nat → Prop} {w : World} {l : Nat} {st st' : LoopState} {pend pend' : Option Code} {T0 : Nat → V} {n : Nat} {ps : Array Tmp} {asC bdC : Code} {D fn : Nat} {tmps : Array Value} (hl : w.heap[l]? = some (.loop { state := st, pending := pend, fn := fn, tmps := tmps, params := ps, assign := asC, body := bdC, defers := D }))
    (hn : tmps.size = n) (hi : ∀ o, ¬ I l o) (hT : ∀ i, RV I w (T0 i) (tmps.getD i undef)) :
    RelY I (w.putObj l (.loop { state := st', pending := pend', fn := fn, tmps := tmps, params := ps, assign := asC, body := bdC, defers := D })) l (.loop st' pend' T0 n ps asC bdC D) := by
  simp only [RelY]
  exact ⟨fn, tmps, World.putObj_heap_same (Array.getElem?_eq_some_iff.1 hl).1, hn, fun i => RV.keeps (.putObj hi) _ _ (hT i)⟩

/-- THE CONTRACT OF A ROUND. -/
theorem yc_of_round {P : Program} {l n : Nat} {ps : Array Tmp} {asC bdC : Code} {D : Nat} {T0 : Nat → V} {args : List V} {s : H} {as bd : SC} {Q : V → H → Prop} (lps : List Nat) (hlps : lps.contains 2000000 = false) (hy : s.y l = some (.loop .ready none T0 n ps asC bdC D))
    (ha : compC P n lps asC = some as) (hb : compC P n lps bdC = some bd) (hargs : args.length = ps.size) (hps : ∀ p ∈ ps.toList, p < n)
    (hw : wpS P as (fun e => match e with
      | .normal => fun T1 L1 s1 => s1.y l = some (.loop .ready none T0 n ps asC bdC D) ∧ wpS P bd (roundQ l T0 n ps asC bdC D Q) T1 L1 (s1.setY l (some (.loop .busy none T0 n ps asC bdC D)))
      | _ => fun _ _ _ => False) (roundT T0 ps.toList args) (fun _ => (0, [])) s) : YC P l args s Q := by
  intro I w cargs hh hv
  obtain ⟨hy1, hy2⟩ := hh.hy _ _ hy
  simp only [RelY] at hy1
  obtain ⟨fn, tmps, hl, hsz, hT⟩ := hy1
  have hcl := hv.length
  simp only [Array.length_toList] at hcl
  have hyr := run_yield (P := P) (args := cargs) hl (by simp only; omega)
  refine ⟨fn, _, asC, bdC, hyr, ?_⟩
  refine roundIn_of_wpIn (F := Fence.wide) trivial ?_
  have hfold : (ps.zip cargs).foldl (fun (t : Array Value) (p : Tmp × Value) => t.setIfInBounds p.1 p.2) tmps = (ps.toList.zip cargs.toList).foldl (fun (t : Array Value) (p : Tmp × Value) => t.setIfInBounds p.1 p.2) tmps := by
    rw [← Array.foldl_toList, Array.toList_zip]
  obtain ⟨f1, f2⟩ := fold_put (I := I) (w := w) ps.toList args cargs.toList T0 tmps (by rw [hsz]; exact hps) (by simpa using hargs) hv hT
  have hro : lps.contains 2000000 = true → ({ n := n, D := [], ro := some l, base := w.heap.size } : Fr).ro = none ∧ ({ n := n, D := [], ro := some l, base := w.heap.size } : Fr).mky = true := fun h => by rw [hlps] at h; cases h
  have hok : Ok { n := n, D := [], ro := some l, base := w.heap.size } ⟨I, s, w⟩ (roundT T0 ps.toList args) (fun _ => (0, [])) s { tmps := (ps.zip cargs).foldl (fun (t : Array Value) (p : Tmp × Value) => t.setIfInBounds p.1 p.2) tmps, defers := [] } w := by
    refine ⟨I, fun _ => (0, 0), ⟨hh, fun i => ?_, ?_, ⟨[], rfl, ⟨fun _ => rfl, .nil⟩, fun _ h => by cases h⟩, fun _ => rfl, fun k hk => absurd rfl hk, fun k _ hk => absurd rfl hk⟩, .refl _ _ _, fun k hk => absurd rfl hk⟩
    · rw [hfold]; exact RF.of_rv (f1 i)
    · rw [hfold, f2]; exact hsz
  have h1 := wpS_sound (n := 0) hro rfl asC ha hok hw
  refine wpIn_mono (F := FW (some l)) h1 fun e a1 w1 he => ?_
  cases e with
  | normal =>
    obtain ⟨T1, L1, s1, ⟨I1, lb1, hr1, hs1, hf1⟩, hy1, hw1⟩ := he
    obtain ⟨r1, r2⟩ := hr1.h.hy _ _ hy1
    simp only [RelY] at r1
    obtain ⟨fn1, tmps1, hl1, hsz1, hT1⟩ := r1
    refine ⟨_, run_beginRound hl1 rfl, ?_⟩
    generalize hW2 : w1.putObj l (.loop { state := .busy, pending := none, fn := fn1, tmps := tmps1, params := ps, assign := asC, body := bdC, defers := D }) = w2
    have hh2 : RelH I1 (s1.setY l (some (.loop .busy none T0 n ps asC bdC D))) w2 := by
      rw [← hW2]; exact hr1.h.putY hy1 _ _ (by rintro y ⟨⟩; exact RelY.turn hl1 hsz1 r2 hT1)
    have hs2 : Sin I1 s1 w1 I1 (s1.setY l (some (.loop .busy none T0 n ps asC bdC D))) w2 := by rw [← hW2]; exact Sin.putY hr1.h hy1 _ _
    have hok2 : Ok { n := n, D := [], ro := some l, base := w.heap.size } ⟨I, s, w⟩ T1 L1 (s1.setY l (some (.loop .busy none T0 n ps asC bdC D))) a1 w2 := ⟨I1, lb1, hr1.after hs2 hh2, hs1.trans hs2, hf1⟩
    have h2 := wpS_sound (n := 0) hro rfl bdC hb hok2 hw1
    refine wpIn_mono (F := FW (some l)) h2 fun e a3 w3 he => ?_
    have fin : ∀ (jump : Option Code) (T3 : Nat → V) (L3 : Nat → Nat × List V) (s3 : H), Ok { n := n, D := [], ro := some l, base := w.heap.size } ⟨I, s, w⟩ T3 L3 s3 a3 w3 → s3.y l = some (.loop .busy none T0 n ps asC bdC D) →
        Q (.bool jump.isNone) (s3.setY l (some (.loop (if jump.isNone then .ready else .done) jump T0 n ps asC bdC D))) →
        ∃ v w', (Instr.endRound l jump).run P w3 = .ok v w' ∧ ∃ v' r I' s', Ending.returned v = .returned v' ∧ Sin I s w I' s' w' ∧ RelH I' s' w' ∧ RV I' w' r v' ∧ Q r s' := by
      rintro jump T3 L3 s3 ⟨I3, lb3, hr3, hs3, _⟩ hy3 hq
      obtain ⟨t1, t2⟩ := hr3.h.hy _ _ hy3
      simp only [RelY] at t1
      obtain ⟨fn3, tmps3, hl3, hsz3, hT3⟩ := t1
      refine ⟨_, _, run_endRound jump hl3, _, .bool jump.isNone, I3, _, rfl, hs3.trans (Sin.putY hr3.h hy3 _ _), hr3.h.putY hy3 _ _ ?_, by simp only [RV], hq⟩
      rintro y ⟨⟩
      exact RelY.turn hl3 hsz3 t2 hT3
    cases e with
    | normal =>
      obtain ⟨T3, L3, s3, hok3, hy3, hq⟩ := he
      exact fin none T3 L3 s3 hok3 hy3 hq
    | ret =>
      obtain ⟨T3, L3, s3, hok3, hy3, hq⟩ := he
      exact fin (some .ret) T3 L3 s3 hok3 hy3 hq
    | exit id =>
      obtain ⟨T3, L3, s3, hok3, hy3, hq⟩ := he
      exact fin (some (.exit id)) T3 L3 s3 hok3 hy3 hq
    | _ => exact he.elim
  | exit id => obtain ⟨_, _, _, _, h⟩ := he; exact h.elim
  | ret => obtain ⟨_, _, _, _, h⟩ := he; exact h.elim
  | _ => exact he.elim

end Go.VL
