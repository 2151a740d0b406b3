/- The law QueryAll of package grommetlaw24 answers true and turns no argument, for all arguments that are together of bulk at most 1048576; condition: the listed package variables start as the program's text lays them. (part 19.) -/
import Derived.Test.YthcjadhoplakcaaGreatDoorAll18
set_option linter.unusedSimpArgs false
set_option linter.unusedVariables false
set_option maxRecDepth 100000
set_option maxHeartbeats 2000000
namespace Go.Eng.Tryz
open Go.Eng Go.Proofs Go.RowKit Go.ChangeShapes Go.WideShapes
noncomputable def laidWorld (os : Os) : World :=
  let N := (World.settled Go.Proofs.Tryz.prog os).heap.size
  let w0 := World.holding Go.Proofs.Tryz.prog os ⟨#[.cells #[.string ⟨#[118, 97, 108, 117, 101, 32, 111, 117, 116, 32, 111, 102, 32, 114, 97, 110, 103, 101]⟩] 369, .cells #[.string ⟨#[105, 110, 118, 97, 108, 105, 100, 32, 115, 121, 110, 116, 97, 120]⟩] 369], #[], []⟩
  let put (h : Array Obj) (g : Nat) (cs : Array Value) : Array Obj := h.modify g fun
    | .cells _ t frozen => .cells cs t frozen
    | o => o
  let h1 := put w0.heap 0 (pow10L.map (Value.int .u64)).toArray
  let h2 := put h1 1 #[.iface 367 (.pointer (some ⟨N + 1, 0, none⟩))]
  let h3 := put h2 2 #[.iface 367 (.pointer (some ⟨N, 0, none⟩))]
  let h4 := put h3 4 (firstL.map (Value.int .u8)).toArray
  let h5 := put h4 5 (acceptL.map (Value.int .u8)).toArray
  let h6 := put h5 6 (bruijn32L.map (Value.int .u8)).toArray
  let h7 := put h6 7 (bruijn64L.map (Value.int .u8)).toArray
  { w0 with heap := h7 }
theorem laid_met (os : Os) (args : Array Value) : laidMet Go.Proofs.Tryz.prog laidL ((laidWorld os).forCall (fun _ _ => 0) ⟨#[], args, []⟩).memory :=
  laidMet_of_run' 8 (by kernel_rfl) (by kernel_rfl)
theorem own0 : ownKnob Go.Proofs.Tryz.prog.godebug = none := by kernel_rfl
theorem laid0 : laidOutB Go.Proofs.Tryz.prog = true := by kernel_rfl
theorem read_graph : Go.Proofs.Tryz.prog.readableRec 24 = true ∧ 24 < Go.Proofs.Tryz.prog.types.size := ⟨by kernel_rfl, of_decide_eq_true (by kernel_rfl)⟩
theorem read_parts : Go.Proofs.Tryz.prog.readableRec 25 = true ∧ 25 < Go.Proofs.Tryz.prog.types.size := ⟨by kernel_rfl, of_decide_eq_true (by kernel_rfl)⟩
theorem read_steps : Go.Proofs.Tryz.prog.readableRec 26 = true ∧ 26 < Go.Proofs.Tryz.prog.types.size := ⟨by kernel_rfl, of_decide_eq_true (by kernel_rfl)⟩
end Go.Eng.Tryz
