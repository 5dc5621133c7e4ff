/-
  WHAT THE ROWS OF THIS SEAT SHARE: the door's own heap meets the condition; the digits' table lies where the program has it.
-/
import Derived.Test.YtkkflfmonidepaaDoorRows
import Derived.Test.YtkkflfmonidepaaDoorEng15
import Derived.Test.YtkkflfmonidepaaDoorT
namespace Go.Proofs.YtkkflfmonidepaaDoor
open Sp Go.ChangeShapes Go.WideShapes Go.ChangeAt Go.WideMaps Go.WideElems Go.RowKit
set_option maxRecDepth 100000

theorem rowOwn : ownKnob Tryd.prog.godebug = none := by kernel_rfl
theorem rowLaidOut : laidOutB Tryd.prog = true := by kernel_rfl
theorem doorMet (os : Os) (args : Array Value) : laidMetH Tryd.prog [("speculum/octet.digits", Rows.laid_speculum_octet_digits)] ((World.doorLaid Tryd.prog 400 os).forCall (fun _ _ => 0) ⟨#[], args, []⟩).memory :=
  laidMetH_of_parts3 (fuel := 8) (laidMet_of_run' 8 (by kernel_rfl) (by kernel_rfl)) (by kernel_rfl) (by kernel_rfl)
theorem gDigits : Tryd.prog.globalNamed "speculum/octet.digits" = some 0 := by kernel_rfl
theorem tDigits : (Tryd.prog.globals[0]?).map (·.type) = some 101 := by kernel_rfl
theorem globOf {W : World} (h : laidMetH Tryd.prog [("speculum/octet.digits", Rows.laid_speculum_octet_digits)] W) : Glob (I0 W) := by
  rw [MakeChecks.laidMetH_plain _ _ _ (by kernel_rfl)] at h
  obtain ⟨ps, ⟨g0, t0, cs0, f0, p0, q0, hg0, ht0, hv0, hd0, _, _⟩, _, _⟩ := h
  obtain rfl := Option.some.inj (gDigits.symm.trans hg0)
  obtain rfl := Option.some.inj (tDigits.symm.trans ht0)
  have hc := cells_ints (l := digs) (k := .u8) Tryd.underlying101 Tryd.underlying5 (by kernel_rfl) (by kernel_rfl) hd0
  refine ⟨fun q u hq => ?_⟩
  have h1 := World.var?_cell hg0 hv0 q
  rw [← hc] at hq
  show W.cell? ⟨0, 0 + q, none⟩ = some u
  rw [Nat.zero_add, h1, ← hq]
  simp
end Go.Proofs.YtkkflfmonidepaaDoor
