/-
  a part of the proof: the texts VlA, VlB, VlC, VlD, joined: helper laws; none of them is the statement.
-/
import Derived.Calls
import Derived.CallsIn
import Derived.Laws.Sem
import Derived.Laws.World
import Derived.Laws.Cells

/-
  VlA: a value layer over the machine: slices that nobody writes any more are plain lists. Values, what they stand for in a world, and that this stays.
-/
namespace Go.VL
open Go

/-- The values of the layer. -/
inductive V where
  | any
  | int (k : IntKind) (n : Int)
  | bool (b : Bool)
  | str (s : List UInt8)
  | ptr (b o : Nat)
  | nilp
  | hs (b o len cap : Nat)
  | sl (xs sp : List (List V)) (ex : Bool) (t : Option (Nat × Nat))
  | fn (f : Fn) (fi ca : List V)
  | nilfn
  | ifc (t : Nat) (v : V)
  | nilif
  | agg (cs : List V)
  | tup (vs : List V)
  | map (r : Nat)
  | nilmap
  | lp (k u o : Nat)
  | ip (cs : List V) (o : Nat)
  | c (v : Value)
  deriving Inhabited

def mkStr (s : List UInt8) : Value := .string ⟨s.toArray⟩

/-- a bound that every length keeps (2^63). -/
def top : Nat := 9223372036854775808

section
variable (I : Nat → Nat → Prop) (w : World)
mutual
/-- A value of the layer stands for a value of the machine; I: the cells that nobody writes any more. -/
def RV : V → Value → Prop
  | .any, _ => True
  | .int k n, cv => cv = .int k n
  | .bool b, cv => cv = .bool b
  | .str s, cv => cv = mkStr s
  | .ptr b o, cv => cv = .pointer (some ⟨b, o, none⟩)
  | .nilp, cv => cv = .pointer none
  | .hs b o len cap, cv => cv = .slice (some ⟨b, o, none⟩) len cap
  | .sl xs sp ex t, cv => ∃ a cap, cv = .slice a xs.length cap ∧ xs.length + sp.length ≤ cap ∧ (ex = true → cap = xs.length + sp.length) ∧ cap < top ∧
      (∀ b c, t = some (b, c) → a = some ⟨b, 0, none⟩ ∧ cap = c) ∧ (a = none → cap = 0) ∧
      (cap ≠ 0 → ∃ b o k, a = some ⟨b, o, none⟩ ∧ RVmm k b o xs ∧ RVmm k b (o + xs.length * k) sp)
  | .fn f fi ca, cv => ∃ a1 a2, cv = .func f a1 a2 ∧ RVs fi a1.toList ∧ RVs ca a2.toList
  | .nilfn, cv => cv = .nilFunc
  | .ifc t v, cv => ∃ u, cv = .iface t u ∧ RV v u
  | .nilif, cv => cv = .nilIface
  | .agg cs, cv => ∃ a, cv = .agg a ∧ RVs cs a.toList
  | .tup cs, cv => ∃ a, cv = .tuple a ∧ RVs cs a.toList
  | .map r, cv => cv = .map (some r)
  | .nilmap, cv => cv = .map none
  | .lp _ _ _, _ => False
  | .ip cs o, cv => ∃ b o0, cv = .pointer (some ⟨b, o0 + o, none⟩) ∧ RVm b o0 cs
  | .c v, cv => cv = v
def RVs : List V → List Value → Prop
  | [], [] => True
  | v :: vs, c :: cs => RV v c ∧ RVs vs cs
  | _, _ => False
/-- cells that lie in memory, one behind the other. -/
def RVm : Nat → Nat → List V → Prop
  | _, _, [] => True
  | b, o, v :: vs => (I b o ∧ ∃ cv, w.cell? ⟨b, o, none⟩ = some cv ∧ RV v cv) ∧ RVm b (o + 1) vs
/-- elements that lie in memory, k cells each. -/
def RVmm : Nat → Nat → Nat → List (List V) → Prop
  | _, _, _, [] => True
  | k, b, o, x :: xs => (x.length = k ∧ RVm b o x) ∧ RVmm k b (o + k) xs
end
end


/-- Memory that nobody writes any more stays: I may grow, its cells keep what they hold. -/
def Keeps (I : Nat → Nat → Prop) (w : World) (I' : Nat → Nat → Prop) (w' : World) : Prop :=
  (∀ b o, I b o → I' b o) ∧ ∀ b o, I b o → w'.cell? ⟨b, o, none⟩ = w.cell? ⟨b, o, none⟩

theorem Keeps.refl (I : Nat → Nat → Prop) (w : World) : Keeps I w I w := ⟨fun _ _ h => h, fun _ _ _ => rfl⟩
theorem Keeps.trans {I J K : Nat → Nat → Prop} {w x y : World} (h : Keeps I w J x) (h' : Keeps J x K y) : Keeps I w K y :=
  ⟨fun b o hi => h'.1 b o (h.1 b o hi), fun b o hi => (h'.2 b o (h.1 b o hi)).trans (h.2 b o hi)⟩

mutual
theorem RV.keeps {I I' : Nat → Nat → Prop} {w w' : World} (hk : Keeps I w I' w') : ∀ (v : V) (cv : Value), RV I w v cv → RV I' w' v cv
  | .any, _, _ => by simp only [RV]
  | .int _ _, _, h | .bool _, _, h | .str _, _, h | .ptr _ _, _, h | .nilp, _, h | .hs _ _ _ _, _, h | .nilfn, _, h | .nilif, _, h
  | .map _, _, h | .nilmap, _, h | .c _, _, h => by simp only [RV] at h ⊢; exact h
  | .lp _ _ _, _, h => by simp only [RV] at h
  | .sl xs sp ex t, cv, h => by
    simp only [RV] at h ⊢
    obtain ⟨a, cap, h1, h2, h3, h4, h5, h6, h7⟩ := h
    refine ⟨a, cap, h1, h2, h3, h4, h5, h6, fun hc => ?_⟩
    obtain ⟨b, o, k, e, m1, m2⟩ := h7 hc
    exact ⟨b, o, k, e, RVmm.keeps hk k b o xs m1, RVmm.keeps hk k b _ sp m2⟩
  | .fn f fi ca, cv, h => by
    simp only [RV] at h ⊢
    obtain ⟨a1, a2, e, h1, h2⟩ := h
    exact ⟨a1, a2, e, RVs.keeps hk fi _ h1, RVs.keeps hk ca _ h2⟩
  | .ifc t v, cv, h => by
    simp only [RV] at h ⊢
    obtain ⟨u, e, h1⟩ := h
    exact ⟨u, e, RV.keeps hk v u h1⟩
  | .agg cs, cv, h => by
    simp only [RV] at h ⊢
    obtain ⟨a, e, h1⟩ := h
    exact ⟨a, e, RVs.keeps hk cs _ h1⟩
  | .tup cs, cv, h => by
    simp only [RV] at h ⊢
    obtain ⟨a, e, h1⟩ := h
    exact ⟨a, e, RVs.keeps hk cs _ h1⟩
  | .ip cs o, cv, h => by
    simp only [RV] at h ⊢
    obtain ⟨b, o0, e, h1⟩ := h
    exact ⟨b, o0, e, RVm.keeps hk b o0 cs h1⟩
theorem RVs.keeps {I I' : Nat → Nat → Prop} {w w' : World} (hk : Keeps I w I' w') : ∀ (vs : List V) (cs : List Value), RVs I w vs cs → RVs I' w' vs cs
  | [], [], _ => by simp only [RVs]
  | v :: vs, c :: cs, h => by
    simp only [RVs] at h ⊢
    exact ⟨RV.keeps hk v c h.1, RVs.keeps hk vs cs h.2⟩
  | [], _ :: _, h => by simp only [RVs] at h
  | _ :: _, [], h => by simp only [RVs] at h
theorem RVm.keeps {I I' : Nat → Nat → Prop} {w w' : World} (hk : Keeps I w I' w') : ∀ (b o : Nat) (vs : List V), RVm I w b o vs → RVm I' w' b o vs
  | _, _, [], _ => by simp only [RVm]
  | b, o, v :: vs, h => by
    simp only [RVm] at h ⊢
    obtain ⟨⟨hi, cv, hc, hv⟩, hr⟩ := h
    exact ⟨⟨hk.1 b o hi, cv, (hk.2 b o hi).trans hc, RV.keeps hk v cv hv⟩, RVm.keeps hk b (o + 1) vs hr⟩
theorem RVmm.keeps {I I' : Nat → Nat → Prop} {w w' : World} (hk : Keeps I w I' w') : ∀ (k b o : Nat) (xs : List (List V)), RVmm I w k b o xs → RVmm I' w' k b o xs
  | _, _, _, [], _ => by simp only [RVmm]
  | k, b, o, x :: xs, h => by
    simp only [RVmm] at h ⊢
    exact ⟨⟨h.1.1, RVm.keeps hk b o x h.1.2⟩, RVmm.keeps hk k b (o + k) xs h.2⟩
end

end Go.VL

/-
  VlB: what a call owns and what it leaves alone; the contract of a call in the value layer.
-/
namespace Go.VL
open Go

/-- What is owned of memory: c: blocks that are known whole and may be written; f: blocks of which the room from a cell on may be written;
    g: package-level variables that are never written. -/
inductive Y where
  | col
  | loop (st : LoopState) (pend : Option Code) (T : Nat → V) (n : Nat) (ps : Array Tmp) (as bd : Code) (D : Nat)

/-- y: what a range over a function keeps of itself: its record, its block of deferred calls. -/
structure H where
  c : Nat → Option (List V)
  f : Nat → Option (Nat × Nat)
  g : List (Nat × List V)
  y : Nat → Option Y := fun _ => none

def H.owned (s : H) (b : Nat) : Prop := s.c b ≠ none ∨ s.f b ≠ none ∨ s.y b ≠ none

/-- cells as far as they are told: a list of values, or the head of one. -/
def RVp (I : Nat → Nat → Prop) (w : World) (cs : List V) (vs : List Value) : Prop := cs.length ≤ vs.length ∧ RVs I w cs (vs.take cs.length)

def RelY (I : Nat → Nat → Prop) (w : World) (b : Nat) : Y → Prop
  | .col => w.heap[b]? = some (.deferred (some []))
  | .loop st pend T n ps as bd D => ∃ fn tmps, w.heap[b]? = some (.loop { state := st, pending := pend, fn := fn, tmps := tmps, params := ps, assign := as, body := bd, defers := D }) ∧ tmps.size = n ∧ ∀ i, RV I w (T i) (tmps.getD i undef)

structure RelH (I : Nat → Nat → Prop) (s : H) (w : World) : Prop where
  hc : ∀ b cs, s.c b = some cs → (∃ vs t, w.heap[b]? = some (.cells vs t (0, 0)) ∧ RVp I w cs vs.toList) ∧ ∀ o, ¬ I b o
  hf : ∀ b n m, s.f b = some (n, m) → s.c b = none ∧ ∃ vs t, w.heap[b]? = some (.cells vs t (0, 0)) ∧ m ≤ vs.size ∧ n ≤ vs.size ∧ ∀ o, n ≤ o → ¬ I b o
  hg : ∀ x ∈ s.g, RVm I w x.1 0 x.2
  hi : ∀ b o, I b o → b < w.heap.size
  hy : ∀ b y, s.y b = some y → RelY I w b y ∧ ∀ o, ¬ I b o

theorem RelY.keeps {I I' : Nat → Nat → Prop} {w w' : World} (hk : Keeps I w I' w') {b : Nat} {y : Y} (hb : w'.heap[b]? = w.heap[b]?) (h : RelY I w b y) : RelY I' w' b y := by
  cases y with
  | col => simp only [RelY] at h ⊢; rw [hb]; exact h
  | loop st pend T n ps as bd D =>
    simp only [RelY] at h ⊢
    obtain ⟨fn, tmps, h1, h2, h3⟩ := h
    exact ⟨fn, tmps, by rw [hb]; exact h1, h2, fun i => RV.keeps hk _ _ (h3 i)⟩

theorem RelY.no_cells {I : Nat → Nat → Prop} {w : World} {b : Nat} {y : Y} (h : RelY I w b y) {vs : Array Value} {t : TypeId} {r : Nat × Nat} : w.heap[b]? ≠ some (.cells vs t r) := by
  intro e
  cases y with
  | col => simp only [RelY] at h; rw [h] at e; cases e
  | loop st pend T n ps as bd D =>
    simp only [RelY] at h
    obtain ⟨fn, tmps, h1, _⟩ := h
    rw [h1] at e; cases e

theorem RelY.lt {I : Nat → Nat → Prop} {w : World} {b : Nat} {y : Y} (h : RelY I w b y) : b < w.heap.size := by
  cases y with
  | col => simp only [RelY] at h; exact (Array.getElem?_eq_some_iff.1 h).1
  | loop st pend T n ps as bd D =>
    simp only [RelY] at h
    obtain ⟨fn, tmps, h1, _⟩ := h
    exact (Array.getElem?_eq_some_iff.1 h1).1

/-- what ranges keep stays. -/
theorem RelH.yes {I I' : Nat → Nat → Prop} {s : H} {w w' : World} (h : RelH I s w) (hk : Keeps I w I' w') (hs : ∀ b, s.y b ≠ none → w'.heap[b]? = w.heap[b]?) (hn : ∀ b o, s.y b ≠ none → I' b o → I b o) :
    ∀ b y, s.y b = some y → RelY I' w' b y ∧ ∀ o, ¬ I' b o := fun b y hy => by
  obtain ⟨h1, h2⟩ := h.hy b y hy
  have hne : s.y b ≠ none := by rw [hy]; simp
  exact ⟨h1.keeps hk (hs b hne), fun o ho => h2 o (hn b o hne ho)⟩

/-- From one moment to a later one: what was not owned is as it was. -/
structure Sin (I : Nat → Nat → Prop) (s : H) (w : World) (I' : Nat → Nat → Prop) (s' : H) (w' : World) : Prop where
  size : w.heap.size ≤ w'.heap.size
  keeps : Keeps I w I' w'
  new : ∀ b o, I' b o → I b o ∨ s.owned b ∨ w.heap.size ≤ b
  own : ∀ b, s'.owned b → s.owned b ∨ w.heap.size ≤ b
  same : ∀ b, ¬ s.owned b → b < w.heap.size → w'.heap[b]? = w.heap[b]?
  os : w'.os = w.os
  output : w'.output = w.output
  tape : w'.tape = w.tape

theorem Sin.refl (I : Nat → Nat → Prop) (s : H) (w : World) : Sin I s w I s w :=
  ⟨Nat.le_refl _, .refl _ _, fun _ _ h => .inl h, fun _ h => .inl h, fun _ _ _ => rfl, rfl, rfl, rfl⟩

theorem Sin.trans {I J K : Nat → Nat → Prop} {s t u : H} {w x y : World} (h : Sin I s w J t x) (h' : Sin J t x K u y) : Sin I s w K u y where
  size := Nat.le_trans h.size h'.size
  keeps := h.keeps.trans h'.keeps
  new b o hb := by
    rcases h'.new b o hb with h1 | h1 | h1
    · exact h.new b o h1
    · rcases h.own b h1 with h2 | h2
      · exact .inr (.inl h2)
      · exact .inr (.inr h2)
    · exact .inr (.inr (Nat.le_trans h.size h1))
  own b hb := by
    rcases h'.own b hb with h1 | h1
    · exact h.own b h1
    · exact .inr (Nat.le_trans h.size h1)
  same b hb hl := by
    rw [h'.same b ?_ (Nat.lt_of_lt_of_le hl h.size), h.same b hb hl]
    intro ho
    rcases h.own b ho with h1 | h1
    · exact hb h1
    · omega
  os := h'.os.trans h.os
  output := h'.output.trans h.output
  tape := h'.tape.trans h.tape

/-- may a function be entered: it has a body. -/
def okFn (P : Program) (f : Nat) : Bool :=
  match P.funcs[f]? with
  | some fn => fn.name != "runtime.NumGoroutine" && fn.body.isSome
  | none => false

/-- The contract of a call: it returns, what comes back and what is owned then is as told; nothing else has changed. -/
def AC (P : Program) (f : Nat) (args : List V) (s : H) (Q : V → H → Prop) : Prop :=
  okFn P f = true ∧ ∀ (I : Nat → Nat → Prop) (w : World) (cargs : Array Value), RelH I s w → RVs I w args cargs.toList →
    Calls P f cargs w fun e w' => ∃ v r I' s', e = .returned v ∧ Sin I s w I' s' w' ∧ RelH I' s' w' ∧ RV I' w' r v ∧ Q r s'

theorem AC.mono {P : Program} {f : Nat} {args : List V} {s : H} {Q Q' : V → H → Prop} (h : AC P f args s Q) (hq : ∀ r s', Q r s' → Q' r s') : AC P f args s Q' :=
  ⟨h.1, fun I w ca hr ha => (h.2 I w ca hr ha).mono fun _ _ ⟨v, r, I', s', e, h1, h2, h3, h4⟩ => ⟨v, r, I', s', e, h1, h2, h3, hq _ _ h4⟩⟩

/-- The contract of a call of yield: a round of the loop l. -/
def YC (P : Program) (l : Nat) (args : List V) (s : H) (Q : V → H → Prop) : Prop :=
  ∀ (I : Nat → Nat → Prop) (w : World) (cargs : Array Value), RelH I s w → RVs I w args cargs.toList →
    ∃ fn tmps as bd, (Instr.yield l cargs).run P w = .ok (.round l fn tmps as bd) w ∧ RoundIn Fence.wide 0 P l fn tmps as bd w fun e w' => ∃ v r I' s', e = .returned v ∧ Sin I s w I' s' w' ∧ RelH I' s' w' ∧ RV I' w' r v ∧ Q r s'

theorem YC.mono {P : Program} {l : Nat} {args : List V} {s : H} {Q Q' : V → H → Prop} (h : YC P l args s Q) (hq : ∀ r s', Q r s' → Q' r s') : YC P l args s Q' :=
  fun I w ca hr ha => by
    obtain ⟨fn, tmps, as, bd, h1, h2⟩ := h I w ca hr ha
    exact ⟨fn, tmps, as, bd, h1, h2.mono fun _ _ ⟨v, r, I', s', e, h1, h2, h3, h4⟩ => ⟨v, r, I', s', e, h1, h2, h3, hq _ _ h4⟩⟩

end Go.VL

/-
  VlC: the operations of the layer, and what they do (the weakest thing that must hold before them).
-/
namespace Go.VL
open Go

def upd {α : Type} (T : Nat → α) (d : Nat) (v : α) : Nat → α := fun i => if i = d then v else T i

inductive X where
  | t (i : Nat)
  | k (v : V)
  deriving Inhabited

def X.ev (T : Nat → V) : X → V
  | .t i => T i
  | .k v => v

/-- operations that only compute, or read. -/
inductive E where
  | mv (x : X)
  | pick (c a b : X)
  | bin (op : BinOp) (x y : X)
  | eqb (neg : Bool) (x y : X)
  | eqn (neg p : Bool) (x : X)
  | not (x : X)
  | neg (x : X)
  | len (st : Bool) (x : X)
  | cap (x : X)
  | fld (x : X) (off n : Nat) (agg : Bool)
  | fa (x : X) (off : Nat)
  | ia (x i : X) (sz : Nat)
  | iaa (x i : X) (len sz : Nat)
  | ix (x i : X)
  | ixa (x i : X) (len sz : Nat) (agg : Bool)
  | ld (loc : Bool) (x : X) (n : Nat) (agg : Bool)
  | ext (x : X) (i : Nat)
  | mkfn (f : Nat) (fi ca : List X)
  | mkif (t : Nat) (x : X)
  | slc (st : Bool) (x : X) (lo hi mx : Option X) (sz : Nat)
  | nilck (x : X)
  | cvi (k : IntKind) (x : X)
  | cvs (x : X)
  | b2s (x : X)
  | build (z : List V) (parts : List (Nat × Nat × X))
  deriving Inhabited

/-- operations. -/
inductive R where
  | p (d : Nat) (e : E)
  | pf (d : Nat) (e : E)
  | bsl (d n sz : Nat) (z : List V) (parts : List (Nat × X))
  | boxl (d n : Nat) (x : X)
  | boxh (d n : Nat) (x : X)
  | st (loc : Bool) (x v : X) (n : Nat)
  | call (d : Option Nat) (f : Nat) (args : List X)
  | callv (d : Option Nat) (x : X) (args : List X)
  | app (d sz : Nat) (x y : X)
  | mksl (d sz : Nat) (cap : X)
  | capu (d : Nat) (x : X)
  | s2b (d : Nat) (x : X)
  | nils (neg : Bool) (d : Nat) (x : X)
  | bsl0 (d : Nat)
  | apph (d sz : Nat) (x y : X)
  | any (d : Option Nat)
  | gd (g : Nat) (b : Bool) (rs : List R)
  deriving Inhabited

def intV : BinOp → IntKind → Int → Int → Option V
  | .add, k, a, b => some (.int k (k.wrap (a + b)))
  | .sub, k, a, b => some (.int k (k.wrap (a - b)))
  | .mul, k, a, b => some (.int k (k.wrap (a * b)))
  | .quo, k, a, b => if b = 0 then none else some (.int k (k.wrap (a.tdiv b)))
  | .rem, k, a, b => if b = 0 then none else some (.int k (a.tmod b))
  | .eql, _, a, b => some (.bool (decide (a = b)))
  | .neq, _, a, b => some (.bool (decide (a ≠ b)))
  | .lss, _, a, b => some (.bool (decide (a < b)))
  | .leq, _, a, b => some (.bool (decide (a ≤ b)))
  | .gtr, _, a, b => some (.bool (decide (b < a)))
  | .geq, _, a, b => some (.bool (decide (b ≤ a)))
  | _, _, _, _ => none

def strV : BinOp → List UInt8 → List UInt8 → Option V
  | .add, a, b => if a.length + b.length < top then some (.str (a ++ b)) else none
  | .eql, a, b => some (.bool (decide (a = b)))
  | .neq, a, b => some (.bool (decide (a ≠ b)))
  | .lss, a, b => some (.bool (Op.bytesLess a b))
  | .leq, a, b => some (.bool (Op.bytesLess a b || decide (a = b)))
  | .gtr, a, b => some (.bool (!(Op.bytesLess a b || decide (a = b))))
  | .geq, a, b => some (.bool (!Op.bytesLess a b))
  | _, _, _ => none

def binV (op : BinOp) : V → V → Option V
  | .int k a, .int k' b => if k = k' then intV op k a b else none
  | .str a, .str b => strV op a b
  | _, _ => none

/-- nil, or not. -/
def isNil : Bool → V → Option Bool
  | true, .nilp => some true
  | true, .ptr _ _ => some false
  | true, .ip _ _ => some false
  | true, .lp _ _ _ => some false
  | false, .nilif => some true
  | false, .ifc _ _ => some false
  | _, _ => none

/-- cells out of a row. -/
def takeV (agg : Bool) (n : Nat) (cs : List V) (o : Nat) : Option V :=
  if agg then (if o + n ≤ cs.length then some (.agg ((cs.drop o).take n)) else none) else cs[o]?

def cellsAt (loc : Bool) (L : Nat → Nat × List V) (s : H) : V → Option (List V × Nat)
  | .lp k u o => if (L k).1 = u then some ((L k).2, o) else none
  | .ip cs o => some (cs, o)
  | .ptr b o => if loc then none else (s.c b).map fun cs => (cs, o)
  | _ => none

/-- may a value be kept beyond its frame: it is no pointer into the frame. -/
def keepable : V → Bool
  | .lp _ _ _ => false
  | _ => true

/-- may a value be stored: it is told. -/
def solid : V → Bool
  | .lp _ _ _ => false
  | .any => false
  | .c _ => false
  | _ => true

/-- may a value be one cell. -/
def one : V → Bool
  | .lp _ _ _ => false
  | .any => false
  | .c _ => false
  | .agg _ => false
  | .tup _ => false
  | _ => true

/-- cells of a value that is stored. -/
def cellsOf : V → List V
  | .agg l => l
  | v => [v]

def fillV : List V → List (Nat × Nat × V) → Option (List V)
  | cs, [] => some cs
  | cs, (off, n, v) :: rest =>
    if solid v = true ∧ (cellsOf v).length = n ∧ off + n ≤ cs.length then fillV (cs.take off ++ cellsOf v ++ cs.drop (off + n)) rest else none

def natOf : V → Option Nat
  | .int _ n => if 0 ≤ n then some n.toNat else none
  | _ => none

def slcV (st : Bool) (v : V) (hi : Option Nat) (l : Nat) (mx : Option Nat) : Option V :=
  match v with
  | .str s => if st = false ∨ mx ≠ none then none else
    let h := hi.getD s.length
    if l ≤ h ∧ h ≤ s.length then some (.str ((s.take h).drop l)) else none
  | .sl xs sp ex t => if st then none else
    match mx with
    | none =>
      let h := hi.getD xs.length
      if l ≤ h ∧ h ≤ xs.length + sp.length then some (.sl (((xs ++ sp).take h).drop l) ((xs ++ sp).drop h) ex (if l = 0 then t else none)) else none
    | some m =>
      let h := hi.getD xs.length
      if hi ≠ none ∧ l ≤ h ∧ h = m ∧ h ≤ xs.length + sp.length then some (.sl (((xs ++ sp).take h).drop l) [] true none) else none
  | _ => none

def boundO (T : Nat → V) : Option X → Option (Option Nat)
  | none => some none
  | some x => (natOf (x.ev T)).map some

def lenV (st : Bool) : V → Option V
  | .sl xs _ _ _ => if st then none else some (.int .i64 xs.length)
  | .str l => if st then some (.int .i64 l.length) else none
  | .hs _ _ n _ => if st then none else some (.int .i64 n)
  | _ => none
def capV : V → Option V
  | .sl xs sp true _ => some (.int .i64 (xs.length + sp.length : Nat))
  | .hs _ _ _ n => some (.int .i64 n)
  | _ => none
def faV (off : Nat) : V → Option V
  | .lp k u o => some (.lp k u (o + off))
  | .ip cs o => some (.ip cs (o + off))
  | .ptr b o => some (.ptr b (o + off))
  | _ => none
def iaV (sz : Nat) : V → Option Nat → Option V
  | .sl xs _ _ _, some n => match xs[n]? with | some e => if e.length = sz then some (.ip e 0) else none | none => none
  | .hs b o len _, some n => if n < len then some (.ptr b (o + n * sz)) else none
  | _, _ => none
def iaaV (len sz : Nat) : V → Option Nat → Option V
  | .lp k u o, some n => if n < len then some (.lp k u (o + n * sz)) else none
  | .ip cs o, some n => if n < len then some (.ip cs (o + n * sz)) else none
  | .ptr b o, some n => if n < len then some (.ptr b (o + n * sz)) else none
  | _, _ => none
def ixV : V → Option Nat → Option V
  | .str l, some n => (l[n]?).map fun c => .int .u8 c.toNat
  | _, _ => none
def ixaV (len sz : Nat) (agg : Bool) : V → Option Nat → Option V
  | .agg cs, some n => if n < len then takeV agg sz cs (n * sz) else none
  | _, _ => none
def nilckV : V → Option V
  | .ptr b o => some (.ptr b o)
  | .lp k u o => some (.lp k u o)
  | .ip cs o => some (.ip cs o)
  | _ => none

/-- bytes out of elements. -/
def toBytes : List (List V) → Option (List UInt8)
  | [] => some []
  | [.int .u8 n] :: r => (toBytes r).map fun l => UInt8.ofNat n.toNat :: l
  | _ :: _ => none
def b2sV : V → Option V
  | .sl xs _ _ _ => (toBytes xs).map .str
  | _ => none
def byteEl (c : UInt8) : List V := [.int .u8 c.toNat]

def evE (T : Nat → V) (L : Nat → Nat × List V) (s : H) : E → Option V
  | .mv x => some (x.ev T)
  | .pick c a b => match c.ev T with | .bool t => some (if t then a.ev T else b.ev T) | _ => none
  | .bin op x y => binV op (x.ev T) (y.ev T)
  | .eqb neg x y => match x.ev T, y.ev T with | .bool a, .bool b => some (.bool (if neg then a != b else a == b)) | _, _ => none
  | .eqn neg p x => (isNil p (x.ev T)).map fun b => .bool (if neg then !b else b)
  | .not x => match x.ev T with | .bool b => some (.bool !b) | _ => none
  | .neg x => match x.ev T with | .int k n => some (.int k (k.wrap (0 - n))) | _ => none
  | .len st x => lenV st (x.ev T)
  | .cap x => capV (x.ev T)
  | .fld x off n agg => match x.ev T with | .agg cs => takeV agg n cs off | _ => none
  | .fa x off => faV off (x.ev T)
  | .ia x i sz => iaV sz (x.ev T) (natOf (i.ev T))
  | .iaa x i len sz => iaaV len sz (x.ev T) (natOf (i.ev T))
  | .ix x i => ixV (x.ev T) (natOf (i.ev T))
  | .ixa x i len sz agg => ixaV len sz agg (x.ev T) (natOf (i.ev T))
  | .ld loc x n agg => match cellsAt loc L s (x.ev T) with | some (cs, o) => takeV agg n cs o | none => none
  | .ext x i => match x.ev T with | .tup vs => vs[i]? | _ => none
  | .mkfn f fi ca => if (fi.all fun x => keepable (x.ev T)) && (ca.all fun x => keepable (x.ev T)) then some (.fn (.func f) (fi.map (X.ev T)) (ca.map (X.ev T))) else none
  | .mkif t x => if keepable (x.ev T) then some (.ifc t (x.ev T)) else none
  | .slc st x lo hi mx _ => match boundO T lo, boundO T hi, boundO T mx with
    | some l, some h, some m => slcV st (x.ev T) h (l.getD 0) m
    | _, _, _ => none
  | .nilck x => nilckV (x.ev T)
  | .cvi k x => match x.ev T with | .int _ n => some (.int k (k.wrap n)) | _ => none
  | .cvs x => match x.ev T with | .str l => some (.str l) | _ => none
  | .b2s x => b2sV (x.ev T)
  | .build z parts => (fillV z (parts.map fun p => (p.1, p.2.1, p.2.2.ev T))).map .agg

/-- what a length is known to keep. -/
def lenFact : V → Prop
  | .sl xs _ _ _ => xs.length < top
  | _ => True
def facts (T : Nat → V) : E → Prop
  | .len _ (.t i) => lenFact (T i)
  | _ => True

/-- what an operation asks beside. -/
def needS (sz : Nat) : V → Prop
  | .sl xs sp _ _ => ∀ y ∈ xs ++ sp, y.length = sz
  | _ => True
def need (T : Nat → V) : E → Prop
  | .slc false x _ _ _ sz => needS sz (x.ev T)
  | _ => True

abbrev Post := (Nat → V) → (Nat → Nat × List V) → H → Prop

def put (T : Nat → V) : Option Nat → V → Nat → V
  | none, _ => T
  | some d, v => upd T d v

def setCells (cs : List V) (o : Nat) (vs : List V) : List V := cs.take o ++ vs ++ cs.drop (o + vs.length)

/-- elements out of a flat row. -/
def chunks (k : Nat) : Nat → List V → List (List V)
  | 0, _ => []
  | n + 1, cs => cs.take k :: chunks k n (cs.drop k)

/-- what may be appended. -/
def elems : V → Option (List (List V))
  | .sl ys _ _ _ => some ys
  | _ => none

section
variable (P : Program)
mutual
def wpR : R → Post → Post
  | .p d e, K, T, L, s => match evE T L s e with | some v => need T e ∧ K (upd T d v) L s | none => False
  | .pf d e, K, T, L, s => match evE T L s e with | some v => need T e ∧ (facts T e → K (upd T d v) L s) | none => False
  | .bsl d n sz z parts, K, T, L, s =>
    match fillV ((List.replicate n z).flatten) (parts.map fun p => (p.1 * sz, sz, p.2.ev T)) with
    | some cs => z.length = sz ∧ 0 < n ∧ K (upd T d (.sl (chunks sz n cs) [] true none)) L s
    | none => False
  | .boxl d n x, K, T, L, s => let cs := cellsOf (x.ev T); solid (x.ev T) = true ∧ cs.length = n ∧ 0 < n ∧ K (upd T d (.lp d ((L d).1 + 1) 0)) (upd L d ((L d).1 + 1, cs)) s
  | .boxh d n x, K, T, L, s => let cs := cellsOf (x.ev T); solid (x.ev T) = true ∧ cs.length = n ∧
    ∀ b, s.c b = none → s.f b = none → K (upd T d (.ptr b 0)) L { s with c := upd s.c b (some cs) }
  | .st loc x v n, K, T, L, s =>
    let vs := cellsOf (v.ev T)
    solid (v.ev T) = true ∧ vs.length = n ∧ (∀ v ∈ vs, one v = true) ∧
    match x.ev T with
    | .lp k u o => (L k).1 = u ∧ o + n ≤ (L k).2.length ∧ K T (upd L k (u, setCells (L k).2 o vs)) s
    | .ptr b o => loc = false ∧ match s.c b with
      | some cs => o + n ≤ cs.length ∧ K T L { s with c := upd s.c b (some (setCells cs o vs)) }
      | none => False
    | _ => False
  | .call d f args, K, T, L, s => (∀ x ∈ args, keepable (x.ev T) = true) ∧ AC P f (args.map (X.ev T)) s fun r s' => K (put T d r) L s'
  | .callv d x args, K, T, L, s => match x.ev T with
    | .fn (.func f) fi ca => (∀ x ∈ args, keepable (x.ev T) = true) ∧ AC P f (fi ++ args.map (X.ev T) ++ ca) s fun r s' => K (put T d r) L s'
    | .fn (.yield l) [] [] => (∀ x ∈ args, keepable (x.ev T) = true) ∧ YC P l (args.map (X.ev T)) s fun r s' => K (put T d r) L s'
    | _ => False
  | .app d sz x y, K, T, L, s => match x.ev T, elems (y.ev T) with
    | .sl xs sp ex t, some ys =>
      (∀ y ∈ ys, y.length = sz ∧ ∀ v ∈ y, one v = true) ∧ (∀ x ∈ xs, x.length = sz) ∧
      (ys = [] → K (upd T d (.sl xs sp ex t)) L s) ∧
      (ys ≠ [] → (xs.length + ys.length) * 1024 ≤ 140737488355328 ∧
        ((sp = [] ∧ ex = true ∧ ∀ b c, s.c b = none → s.f b = none → K (upd T d (.sl (xs ++ ys) [] false (some (b, c)))) L { s with f := upd s.f b (some ((xs.length + ys.length) * sz, c * sz)) }) ∨
         (∃ b c, t = some (b, c) ∧ sp = [] ∧ ex = false ∧ s.f b = some (xs.length * sz, c * sz) ∧
           ∀ b' c', (b' = b ∧ c' = c ∨ s.c b' = none ∧ s.f b' = none) → K (upd T d (.sl (xs ++ ys) [] false (some (b', c')))) L { s with f := upd (upd s.f b none) b' (some ((xs.length + ys.length) * sz, c' * sz)) })))
    | _, _ => False
  | .mksl d sz cap, K, T, L, s => match natOf (cap.ev T) with
    | some n => n * 1024 ≤ 140737488355328 ∧ ∀ b, s.c b = none → s.f b = none → K (upd T d (.sl [] [] false (some (b, n)))) L { s with f := upd s.f b (some (0, n * sz)) }
    | none => False
  | .capu d x, K, T, L, s => match x.ev T with
    | .sl xs sp _ _ => ∀ n, xs.length + sp.length ≤ n → n < top → K (upd T d (.int .i64 n)) L s
    | _ => False
  | .s2b d x, K, T, L, s => match x.ev T with
    | .str l => l.length * 1024 ≤ 140737488355328 ∧ K (upd T d (.sl (l.map byteEl) [] false none)) L s
    | _ => False
  | .nils neg d x, K, T, L, s => match x.ev T with
    | .sl xs _ _ _ => (xs ≠ [] → K (upd T d (.bool neg)) L s) ∧ (xs = [] → ∀ b, K (upd T d (.bool b)) L s)
    | _ => False
  | .bsl0 d, K, T, L, s => K (upd T d (.sl [] [] true none)) L s
  | .apph d sz x y, K, T, L, s => match x.ev T, y.ev T with
    | .sl xs sp ex _, .sl ys _ _ _ => xs = [] ∧ sp = [] ∧ ex = true ∧ (∀ y ∈ ys, y.length = sz ∧ ∀ v ∈ y, one v = true) ∧
      (ys = [] → K (upd T d (.sl [] [] true none)) L s) ∧
      (ys ≠ [] → ys.length * 1024 ≤ 140737488355328 ∧ ∀ b c, s.c b = none → s.f b = none → ys.length ≤ c → c < top → K (upd T d (.hs b 0 ys.length c)) L { s with c := upd s.c b (some ys.flatten) })
    | _, _ => False
  | .any d, K, T, L, s => K (put T d .any) L s
  | .gd g b rs, K, T, L, s => match T g with
    | .bool t => if t = b then wpRs rs K T L s else wpSkip rs K T L s
    | .c (.tuple _) => wpSkip rs K T L s
    | _ => False
def wpRs : List R → Post → Post
  | [], K, T, L, s => K T L s
  | r :: rs, K, T, L, s => wpR r (wpRs rs K) T L s
def wpSkip : List R → Post → Post
  | [], K, T, L, s => K T L s
  | r :: rs, K, T, L, s => wpSkip rs K (skipR r T) L s
def skipR : R → (Nat → V) → (Nat → V)
  | .p d _, T => upd T d (.c (.tuple #[]))
  | .pf d _, T => upd T d (.c (.tuple #[]))
  | .bsl d _ _ _ _, T => upd T d (.c (.tuple #[]))
  | .boxl d _ _, T => upd T d (.c (.tuple #[]))
  | .boxh d _ _, T => upd T d (.c (.tuple #[]))
  | .st _ _ _ _, T => T
  | .call d _ _, T => put T d (.c (.tuple #[]))
  | .callv d _ _, T => put T d (.c (.tuple #[]))
  | .app d _ _ _, T => upd T d (.c (.tuple #[]))
  | .mksl d _ _, T => upd T d (.c (.tuple #[]))
  | .capu d _, T => upd T d (.c (.tuple #[]))
  | .s2b d _, T => upd T d (.c (.tuple #[]))
  | .nils _ d _, T => upd T d (.c (.tuple #[]))
  | .bsl0 d, T => upd T d (.c (.tuple #[]))
  | .apph d _ _ _, T => upd T d (.c (.tuple #[]))
  | .any d, T => put T d (.c (.tuple #[]))
  | .gd _ _ rs, T => skipRs rs T
def skipRs : List R → (Nat → V) → (Nat → V)
  | [], T => T
  | r :: rs, T => skipRs rs (skipR r T)
end
end

end Go.VL

/-
  VlD: the frame of a call and what it stands for; operations that only compute: how they are found in the machine's code, and that they do what VlC says.
-/
namespace Go.VL
open Go

section rv
variable {I : Nat → Nat → Prop} {w : World}
theorem RVs.length : ∀ {vs : List V} {cs : List Value}, RVs I w vs cs → vs.length = cs.length
  | [], [], _ => rfl
  | v :: vs, c :: cs, h => by simp only [RVs] at h; simp [RVs.length h.2]
  | [], _ :: _, h => by simp only [RVs] at h
  | _ :: _, [], h => by simp only [RVs] at h
theorem RVs.get : ∀ {vs : List V} {cs : List Value}, RVs I w vs cs → ∀ {i : Nat} {v : V}, vs[i]? = some v → ∃ c, cs[i]? = some c ∧ RV I w v c
  | [], [], _, i, v, hv => by simp at hv
  | v :: vs, c :: cs, h, 0, u, hu => by
    simp only [RVs] at h; simp at hu; subst hu; exact ⟨c, rfl, h.1⟩
  | v :: vs, c :: cs, h, i + 1, u, hu => by
    simp only [RVs] at h; simp at hu; simpa using RVs.get h.2 hu
  | [], _ :: _, h, _, _, _ => by simp only [RVs] at h
  | _ :: _, [], h, _, _, _ => by simp only [RVs] at h
theorem RVs.take : ∀ (n : Nat) {vs : List V} {cs : List Value}, RVs I w vs cs → RVs I w (vs.take n) (cs.take n)
  | 0, _, _, _ => by simp [RVs]
  | n + 1, [], [], _ => by simp [RVs]
  | n + 1, v :: vs, c :: cs, h => by
    simp only [RVs] at h; simp only [List.take_succ_cons, RVs]; exact ⟨h.1, RVs.take n h.2⟩
  | _ + 1, [], _ :: _, h => by simp only [RVs] at h
  | _ + 1, _ :: _, [], h => by simp only [RVs] at h
theorem RVs.drop : ∀ (n : Nat) {vs : List V} {cs : List Value}, RVs I w vs cs → RVs I w (vs.drop n) (cs.drop n)
  | 0, _, _, h => by simpa using h
  | n + 1, [], [], _ => by simp [RVs]
  | n + 1, v :: vs, c :: cs, h => by
    simp only [RVs] at h; simp only [List.drop_succ_cons]; exact RVs.drop n h.2
  | _ + 1, [], _ :: _, h => by simp only [RVs] at h
  | _ + 1, _ :: _, [], h => by simp only [RVs] at h
theorem RVs.append : ∀ {vs us : List V} {cs ds : List Value}, RVs I w vs cs → RVs I w us ds → RVs I w (vs ++ us) (cs ++ ds)
  | [], _, [], _, _, h' => by simpa using h'
  | v :: vs, us, c :: cs, ds, h, h' => by
    simp only [RVs] at h; simp only [List.cons_append, RVs]; exact ⟨h.1, RVs.append h.2 h'⟩
  | [], _, _ :: _, _, h, _ => by simp only [RVs] at h
  | _ :: _, _, [], _, h, _ => by simp only [RVs] at h
theorem RVs.of_get : ∀ {vs : List V} {cs : List Value}, vs.length = cs.length → (∀ (i : Nat) (v : V) (c : Value), vs[i]? = some v → cs[i]? = some c → RV I w v c) → RVs I w vs cs
  | [], [], _, _ => by simp [RVs]
  | v :: vs, c :: cs, hl, h => by
    simp only [RVs]
    exact ⟨h 0 v c rfl rfl, RVs.of_get (by simpa using hl) fun i u d hu hd => h (i + 1) u d (by simpa using hu) (by simpa using hd)⟩
  | [], _ :: _, hl, _ => by simp at hl
  | _ :: _, [], hl, _ => by simp at hl
theorem RVm.get : ∀ {b o : Nat} {vs : List V}, RVm I w b o vs → ∀ {i : Nat} {v : V}, vs[i]? = some v → I b (o + i) ∧ ∃ c, w.cell? ⟨b, o + i, none⟩ = some c ∧ RV I w v c
  | _, _, [], _, i, v, hv => by simp at hv
  | b, o, v :: vs, h, 0, u, hu => by
    simp only [RVm] at h; simp at hu; subst hu; exact h.1
  | b, o, v :: vs, h, i + 1, u, hu => by
    simp only [RVm] at h; simp at hu
    have := RVm.get h.2 hu
    rwa [show o + 1 + i = o + (i + 1) by omega] at this
theorem RVm.of_get : ∀ {b o : Nat} {vs : List V}, (∀ (i : Nat) (v : V), vs[i]? = some v → I b (o + i) ∧ ∃ c, w.cell? ⟨b, o + i, none⟩ = some c ∧ RV I w v c) → RVm I w b o vs
  | _, _, [], _ => by simp only [RVm]
  | b, o, v :: vs, h => by
    simp only [RVm]
    refine ⟨by simpa using h 0 v rfl, RVm.of_get fun i u hu => ?_⟩
    have := h (i + 1) u (by simpa using hu)
    rwa [show o + (i + 1) = o + 1 + i by omega] at this
theorem RVmm.get : ∀ {k b o : Nat} {xs : List (List V)}, RVmm I w k b o xs → ∀ {i : Nat} {x : List V}, xs[i]? = some x → x.length = k ∧ RVm I w b (o + i * k) x
  | _, _, _, [], _, i, v, hv => by simp at hv
  | k, b, o, x :: xs, h, 0, u, hu => by
    simp only [RVmm] at h; simp at hu; subst hu; simpa using h.1
  | k, b, o, x :: xs, h, i + 1, u, hu => by
    simp only [RVmm] at h; simp at hu
    have := RVmm.get h.2 hu
    rwa [show o + k + i * k = o + (i + 1) * k by rw [Nat.add_mul]; omega] at this
theorem RVmm.of_get : ∀ {k b o : Nat} {xs : List (List V)}, (∀ (i : Nat) (x : List V), xs[i]? = some x → x.length = k ∧ RVm I w b (o + i * k) x) → RVmm I w k b o xs
  | _, _, _, [], _ => by simp only [RVmm]
  | k, b, o, x :: xs, h => by
    simp only [RVmm]
    refine ⟨by simpa using h 0 x rfl, RVmm.of_get fun i u hu => ?_⟩
    have := h (i + 1) u (by simpa using hu)
    rwa [show o + (i + 1) * k = o + k + i * k by rw [Nat.add_mul]; omega] at this
theorem RVmm.append {k b o : Nat} {xs ys : List (List V)} (h : RVmm I w k b o xs) (h' : RVmm I w k b (o + xs.length * k) ys) : RVmm I w k b o (xs ++ ys) :=
  RVmm.of_get fun i x hx => by
    rw [List.getElem?_append] at hx
    split at hx
    · exact h.get hx
    · rename_i hlt
      have := h'.get hx
      rwa [show o + xs.length * k + (i - xs.length) * k = o + i * k by rw [Nat.add_assoc, ← Nat.add_mul, Nat.add_sub_cancel' (by omega)]] at this
theorem RVmm.drop {k b o : Nat} {xs : List (List V)} (h : RVmm I w k b o xs) (l : Nat) : RVmm I w k b (o + l * k) (xs.drop l) :=
  RVmm.of_get fun i x hx => by
    rw [List.getElem?_drop] at hx
    have := h.get hx
    rwa [Nat.add_mul, ← Nat.add_assoc] at this
theorem RVmm.take {k b o : Nat} {xs : List (List V)} (h : RVmm I w k b o xs) (l : Nat) : RVmm I w k b o (xs.take l) :=
  RVmm.of_get fun i x hx => by
    rw [List.getElem?_take] at hx
    split at hx
    · exact h.get hx
    · simp at hx
end rv

/-- a slot of a frame: pointers into the frame's own boxes beside the values (a box that was made anew has another number). -/
def RF (I : Nat → Nat → Prop) (w : World) (lb : Nat → Nat × Nat) : V → Value → Prop
  | .lp k u o, cv => ∃ b, cv = .pointer (some ⟨b, o, none⟩) ∧ ((lb k).1 = u → (lb k).2 = b) ∧ u ≤ (lb k).1
  | v, cv => RV I w v cv

theorem RF.of_rv {I : Nat → Nat → Prop} {w : World} {lb : Nat → Nat × Nat} : ∀ {v : V} {cv : Value}, RV I w v cv → RF I w lb v cv
  | .lp _ _ _, _, h => by simp only [RV] at h
  | .any, _, h | .int _ _, _, h | .bool _, _, h | .str _, _, h | .ptr _ _, _, h | .nilp, _, h | .hs _ _ _ _, _, h | .sl _ _ _ _, _, h | .fn _ _ _, _, h | .nilfn, _, h
  | .ifc _ _, _, h | .nilif, _, h | .agg _, _, h | .tup _, _, h | .map _, _, h | .nilmap, _, h | .ip _ _, _, h | .c _, _, h => h
theorem RF.rv {I : Nat → Nat → Prop} {w : World} {lb : Nat → Nat × Nat} : ∀ {v : V} {cv : Value}, keepable v = true → RF I w lb v cv → RV I w v cv
  | .lp _ _ _, _, h, _ => by simp [keepable] at h
  | .any, _, _, h | .int _ _, _, _, h | .bool _, _, _, h | .str _, _, _, h | .ptr _ _, _, _, h | .nilp, _, _, h | .hs _ _ _ _, _, _, h | .sl _ _ _ _, _, _, h | .fn _ _ _, _, _, h | .nilfn, _, _, h
  | .ifc _ _, _, _, h | .nilif, _, _, h | .agg _, _, _, h | .tup _, _, _, h | .map _, _, _, h | .nilmap, _, _, h | .ip _ _, _, _, h | .c _, _, _, h => h
theorem RF.keeps {I I' : Nat → Nat → Prop} {w w' : World} {lb : Nat → Nat × Nat} (hk : Keeps I w I' w') : ∀ {v : V} {cv : Value}, RF I w lb v cv → RF I' w' lb v cv
  | .lp _ _ _, _, h => h
  | .any, _, h | .int _ _, _, h | .bool _, _, h | .str _, _, h | .ptr _ _, _, h | .nilp, _, h | .hs _ _ _ _, _, h | .sl _ _ _ _, _, h | .fn _ _ _, _, h | .nilfn, _, h
  | .ifc _ _, _, h | .nilif, _, h | .agg _, _, h | .tup _, _, h | .map _, _, h | .nilmap, _, h | .ip _ _, _, h | .c _, _, h => RV.keeps hk _ _ h
/-- a box made anew. -/
theorem RF.anew {I : Nat → Nat → Prop} {w : World} {lb : Nat → Nat × Nat} (d b : Nat) : ∀ {v : V} {cv : Value}, RF I w lb v cv → RF I w (upd lb d ((lb d).1 + 1, b)) v cv
  | .lp k u o, cv, h => by
    simp only [RF] at h ⊢
    obtain ⟨b', e, hb, hle⟩ := h
    refine ⟨b', e, fun hu => ?_, ?_⟩
    · simp only [upd] at hu ⊢
      split at hu
      · rename_i hk
        subst hk
        simp only at hu; omega
      · rename_i hk
        simp only [if_neg hk]; exact hb hu
    · simp only [upd]
      split
      · rename_i hk
        subst hk
        simp only; omega
      · exact hle
  | .any, _, h | .int _ _, _, h | .bool _, _, h | .str _, _, h | .ptr _ _, _, h | .nilp, _, h | .hs _ _ _ _, _, h | .sl _ _ _ _, _, h | .fn _ _ _, _, h | .nilfn, _, h
  | .ifc _ _, _, h | .nilif, _, h | .agg _, _, h | .tup _, _, h | .map _, _, h | .nilmap, _, h | .ip _ _, _, h | .c _, _, h => h

/-- a frame: how many slots, what is deferred, the round that it is of. -/
structure Fr where
  n : Nat
  D : List Deferred := []
  ro : Option Nat := none
  base : Nat := 0
  mky : Bool := false

instance : Coe Fr Nat := ⟨Fr.n⟩

def markOf (D : Nat) : Deferred := { target := .collected D, args := #[] }

/-- what is deferred: beside what the frame began with, the marks of ranges over functions; their blocks are the frame's own. -/
def Marks (N : Fr) (I : Nat → Nat → Prop) (s : H) (ds : List Deferred) (w : World) : Prop :=
  ∃ ms : List Nat, ds = ms.map markOf ++ N.D ∧ ((N.mky = false → ms = []) ∧ ms.Nodup) ∧ ∀ D ∈ ms, w.heap[D]? = some (.deferred (some [])) ∧ ¬ s.owned D ∧ N.base ≤ D ∧ ∀ o, ¬ I D o

theorem Marks.world {N : Fr} {I I' : Nat → Nat → Prop} {s s' : H} {ds : List Deferred} {w w' : World} (h : Marks N I s ds w) (hw : ∀ D, ¬ s.owned D → w.heap[D]? = some (.deferred (some [])) → w'.heap[D]? = some (.deferred (some [])))
    (hs : ∀ D, D < w.heap.size → s'.owned D → s.owned D) (hi : ∀ D o, D < w.heap.size → ¬ s.owned D → I' D o → I D o) : Marks N I' s' ds w' := by
  obtain ⟨ms, h1, h2, h3⟩ := h
  refine ⟨ms, h1, h2, fun D hD => ?_⟩
  obtain ⟨q1, q2, q3, q4⟩ := h3 D hD
  have hlt : D < w.heap.size := (Array.getElem?_eq_some_iff.1 q1).1
  exact ⟨hw D q2 q1, fun ho => q2 (hs D hlt ho), q3, fun o ho => q4 o (hi D o hlt q2 ho)⟩

/-- the frame of a call, its boxes (k: at block lb k), and what is owned. -/
structure Rel (N : Fr) (I : Nat → Nat → Prop) (s : H) (T : Nat → V) (L : Nat → Nat × List V) (lb : Nat → Nat × Nat) (a : Act) (w : World) : Prop where
  h : RelH I s w
  t : ∀ i, RF I w lb (T i) (a.tmps.getD i undef)
  n : a.tmps.size = N
  d : Marks N I s a.defers w
  u : ∀ k, (lb k).1 = (L k).1
  l : ∀ k, (L k).2 ≠ [] → (∃ vs t, w.heap[(lb k).2]? = some (.cells vs t (0, 0)) ∧ RVs I w (L k).2 vs.toList) ∧ ¬ s.owned (lb k).2 ∧ ∀ o, ¬ I (lb k).2 o
  j : ∀ k k', (L k).2 ≠ [] → (L k').2 ≠ [] → (lb k).2 = (lb k').2 → k = k'

/-- constants. -/
def cLeaf : Value → Option V
  | .int k n => some (.int k n)
  | .bool b => some (.bool b)
  | .string s => some (.str s.data.toList)
  | .pointer none => some .nilp
  | .slice none 0 0 => some (.sl [] [] true none)
  | .nilFunc => some .nilfn
  | .nilIface => some .nilif
  | .map none => some .nilmap
  | _ => none
def cLeafs : List Value → Option (List V)
  | [] => some []
  | v :: vs => match cLeaf v, cLeafs vs with | some x, some xs => some (x :: xs) | _, _ => none
def cV : Value → Option V
  | .agg cs => (cLeafs cs.toList).map .agg
  | .tuple _ => some .any
  | v => cLeaf v

theorem cLeaf_sound {v : Value} {x : V} (h : cLeaf v = some x) (I : Nat → Nat → Prop) (w : World) : RV I w x v := by
  unfold cLeaf at h
  split at h <;> first | (simp at h; done) | (cases h; simp only [RV, mkStr]; try rfl)
  exact ⟨none, 0, by simp, by simp, by simp, by decide, by simp, by simp, by simp⟩
theorem cLeafs_sound : ∀ {vs : List Value} {xs : List V}, cLeafs vs = some xs → ∀ (I : Nat → Nat → Prop) (w : World), RVs I w xs vs
  | [], xs, h, I, w => by simp [cLeafs] at h; subst h; simp [RVs]
  | v :: vs, xs, h, I, w => by
    simp only [cLeafs] at h
    split at h
    · rename_i x ys hx hys
      cases h
      simp only [RVs]
      exact ⟨cLeaf_sound hx I w, cLeafs_sound hys I w⟩
    · cases h
theorem cV_sound {v : Value} {x : V} (h : cV v = some x) (I : Nat → Nat → Prop) (w : World) : RV I w x v := by
  unfold cV at h
  split at h
  · simp only [Option.map_eq_some_iff] at h
    obtain ⟨xs, hx, rfl⟩ := h
    simp only [RV]
    exact ⟨_, rfl, cLeafs_sound hx I w⟩
  · cases h; simp only [RV]
  · exact cLeaf_sound h I w

def cX : Operand → Option X
  | .tmp t => some (.t t)
  | .const v => (cV v).map .k
  | .global g => some (.k (.ptr g 0))
  | .func f => some (.k (.fn (.func f) [] []))

theorem cX_sound {o : Operand} {x : X} (h : cX o = some x) {I : Nat → Nat → Prop} {w : World} {lb : Nat → Nat × Nat} {T : Nat → V} {a : Act}
    (ht : ∀ i, RF I w lb (T i) (a.tmps.getD i undef)) : RF I w lb (x.ev T) (a.eval o) := by
  cases o with
  | tmp t => simp only [cX, Option.some.injEq] at h; subst h; exact ht t
  | const v =>
    simp only [cX, Option.map_eq_some_iff] at h
    obtain ⟨u, hu, rfl⟩ := h
    exact RF.of_rv (cV_sound hu I w)
  | global g => simp only [cX, Option.some.injEq] at h; subst h; exact RF.of_rv (v := .ptr g 0) (by simp only [RV]; rfl)
  | func f =>
    simp only [cX, Option.some.injEq] at h; subst h
    refine RF.of_rv (v := .fn (.func f) [] []) ?_
    simp only [RV]
    exact ⟨#[], #[], rfl, by simp [RVs], by simp [RVs]⟩

def cXs : List Operand → Option (List X)
  | [] => some []
  | o :: os => match cX o, cXs os with | some x, some xs => some (x :: xs) | _, _ => none

theorem cXs_sound : ∀ {os : List Operand} {xs : List X}, cXs os = some xs → ∀ {I : Nat → Nat → Prop} {w : World} {lb : Nat → Nat × Nat} {T : Nat → V} {a : Act},
    (∀ i, RF I w lb (T i) (a.tmps.getD i undef)) → (∀ x ∈ xs, keepable (x.ev T) = true) → RVs I w (xs.map (X.ev T)) (os.map a.eval)
  | [], xs, h, I, w, lb, T, a, ht, hk => by simp [cXs] at h; subst h; simp [RVs]
  | o :: os, xs, h, I, w, lb, T, a, ht, hk => by
    simp only [cXs] at h
    split at h
    · rename_i x ys hx hys
      cases h
      simp only [List.map_cons, RVs]
      exact ⟨RF.rv (hk x (by simp)) (cX_sound hx ht), cXs_sound hys ht fun y hy => hk y (by simp [hy])⟩
    · cases h

end Go.VL
