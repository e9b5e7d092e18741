/-
  The call of tapestrylaw18.EvalHides returns true and leaves each argument as it read, for every input that holds at most 1048576 values and letters together. Conditions: those of the given card (evalHidesUptoCard) and no other; nothing is told, the three listed tables are tied to the program's text.
-/
import Derived.Test.YthjjlmkooofdiaaGreatDoorVl13

/-
  VlZzb: EvalHides: its row at the second form, and its card.
-/
namespace Go.Proofs.YthjjlmkooofdiaaGreatDoor
open Go Go.VL Go.ChangeShapes Go.WideShapes Go.ChangeAt Go.RowKit
set_option maxRecDepth 100000

/-- the values of a datum of numbers. -/
def laidCells : DataW Unit → Array Value
  | .agg ds => (ds.map fun
      | .lit (.int k n) => Value.int k n
      | _ => Value.bool false).toArray
  | _ => #[]

def laidAt (d : DataW Unit) : Obj → Obj
  | .cells _ t frozen => .cells (laidCells d) t frozen
  | o => o

def z32 : Value := .agg #[.slice none 0 0, .int .i64 0, .int .i64 0, .slice none 0 0, .int .u8 0, .int .i64 0, .string .empty, .slice none 0 0, .slice none 0 0, .slice none 0 0, .int .u8 0, .slice none 0 0, .slice none 0 0, .string .empty, .slice none 0 0]
def z43 : Value := .agg #[.int .u8 0, .int .i64 0, .string .empty, .slice none 0 0, .slice none 0 0, .int .u8 0, .string .empty, .bool false]
def zArgs : Array Value := #[z32, .string .empty, z43]

/-- a world for the witness: the settled one, the tables holding what their text lays. -/
noncomputable def laidWorld (os : Os) : World :=
  { World.holding Tryz.prog os ⟨#[], #[], []⟩ with heap := (((World.holding Tryz.prog os ⟨#[], #[], []⟩).heap.modify 1 (laidAt Rows.laid_internal_strconv_uint64pow10)).modify 2 (laidAt Rows.laid_math_bits_deBruijn32tab)).modify 3 (laidAt Rows.laid_math_bits_deBruijn64tab) }

theorem laid_met (os : Os) : laidMet Tryz.prog Rows.evalHidesRow.laid ((laidWorld os).forCall (fun _ _ => 0) ⟨#[], zArgs, []⟩).memory :=
  laidMet_of_run' 200 (by kernel_rfl) (by kernel_rfl)

theorem reads (os : Os) {H' : Type} (enc : TypeId × Value → H') : ∃ x, DataW.whole enc Tryz.prog ((laidWorld os).forCall (fun _ _ => 0) ⟨#[], zArgs, []⟩).memory Tryz.f5.params.toList Rows.evalHidesSpec.vars false zArgs.toList 200 = some x ∧ Rows.uptoSmall H' (x.1 ++ x.2.1) = true := by
  have h : (DataW.whole enc Tryz.prog ((laidWorld os).forCall (fun _ _ => 0) ⟨#[], zArgs, []⟩).memory Tryz.f5.params.toList Rows.evalHidesSpec.vars false zArgs.toList 200).any (fun x => Rows.uptoSmall H' (x.1 ++ x.2.1)) = true := by kernel_rfl
  cases hx : DataW.whole enc Tryz.prog ((laidWorld os).forCall (fun _ _ => 0) ⟨#[], zArgs, []⟩).memory Tryz.f5.params.toList Rows.evalHidesSpec.vars false zArgs.toList 200 with
  | none => rw [hx] at h; cases h
  | some x => rw [hx] at h; exact ⟨x, rfl, h⟩

theorem liftedUpto (os : Os) (started : os.Started) (H' : Type) (enc : TypeId × Value → H') (F : Stop.Interp) :
    ReturnsInHanded {} Tryz.checked os 5 .any ((Rows.OpenSpec.upto Rows.evalHidesSpec).preRow enc Tryz.prog Tryz.f5 Rows.evalHidesUptoRow.domain false Rows.evalHidesUptoRow.laid) (((Rows.OpenSpec.upto Rows.evalHidesSpec).at F).post enc Tryz.prog Tryz.f5 false true false false) := by
  obtain ⟨x, hx, hk⟩ := reads os enc
  refine returnsInHanded_of_row (C := Tryz.checked) (s := Rows.OpenSpec.upto Rows.evalHidesSpec) ownK started (by kernel_rfl) Tryz.func5
    (witness_row_at (enc := enc) (C := Tryz.checked) false (laidWorld os) zArgs rfl (by kernel_rfl) (by kernel_rfl) (by kernel_rfl)
      (OpenSpec.preRow_of_cond 200 hx (by kernel_rfl) (fun k h => by cases h; exact hk) (by kernel_rfl) (laid_met os))) ?_
  intro W base args ds gs before hval hW _ hcond _ _ _ _
  have hsm : Rows.uptoSmall H' (ds ++ gs) = true := hcond _ rfl
  exact hides_contract H' enc W base args ds gs before hval hW (of_decide_eq_true hsm)

theorem saidUpto : Rows.EvalHidesUptoSaid :=
  OpenClaim.holds_of_cond 5 Tryz.f5 rfl rfl rfl rfl rfl rfl rfl ⟨rfl, rfl, rfl, rfl, rfl⟩ rfl rfl rfl rfl rfl (by kernel_rfl) Tryz.func5 (by kernel_rfl)
    (of_decide_eq_true (by kernel_rfl)) (by unfold Func.isWrapper; first | (rw [if_pos (by decide +kernel)]; kernel_rfl) | (rw [if_neg (by decide +kernel)]; exact ⟨rfl, rfl⟩))
    (fun os started H' enc _ F => by rw [OpenClaim.pre_eq_preRow]; exact liftedUpto os started H' enc F)

/-- no parameter wants a stand-in; the program's own looks are off. -/
theorem plain (f : FuncId) (fn : Func) (hf : Tryz.pinned.checked.prog.funcNamed "tapestry/tapestrylaw18.EvalHides" = some f) (hfn : Tryz.pinned.checked.prog.funcs[f]? = some fn) :
    false = Tryz.pinned.checked.prog.looks [] ∧ ∀ (j : Nat) t, fn.params[j]? = some t → Tryz.pinned.checked.prog.wantsStandIn t = false := by
  obtain rfl : f = 5 := Option.some.inj ((show Tryz.prog.funcNamed "tapestry/tapestrylaw18.EvalHides" = some 5 by kernel_rfl).symm.trans hf) |>.symm
  obtain rfl : fn = Tryz.f5 := (Option.some.inj (Tryz.func5.symm.trans hfn)).symm
  refine ⟨by kernel_rfl, fun j t ht => ?_⟩
  rw [Tryz.params5] at ht
  have h := Array.mem_of_getElem? ht
  simp only [List.mem_toArray, List.mem_cons, List.not_mem_nil, or_false] at h
  rcases h with rfl | rfl | rfl
  · exact (show Tryz.prog.wantsStandIn 32 = false by kernel_rfl)
  · exact (show Tryz.prog.wantsStandIn 9 = false by kernel_rfl)
  · exact (show Tryz.prog.wantsStandIn 43 = false by kernel_rfl)

/-- THE CARD, at the second form. -/
theorem cardUpto : Rows.EvalHidesUptoCardSaid :=
  Claim7.holds_tied_plain_at .later [] _ _ _ _ saidUpto (fun _ h => by cases h) (by kernel_rfl) (fun _ h => by cases h) evalHidesUpto_row_tie rfl ⟨rfl, rfl⟩ (by kernel_rfl) rfl plain (by kernel_rfl)

end Go.Proofs.YthjjlmkooofdiaaGreatDoor
