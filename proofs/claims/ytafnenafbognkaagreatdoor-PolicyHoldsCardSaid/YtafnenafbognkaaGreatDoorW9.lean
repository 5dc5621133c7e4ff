/-
  Parts of the proof, merged: Law0, F1, F2, F3, F4.
-/
import Derived.Test.YtafnenafbognkaaGreatDoorRows
import Derived.Test.YtafnenafbognkaaGreatDoorW8
namespace Go.Proofs.YtafnenafbognkaaGreatDoor
open Sp Go.ChangeShapes Go.WideShapes Go.ChangeAt Go.WideMaps Go.WideElems Go.RowKit
set_option maxRecDepth 100000
theorem rowOwn : ownKnob Tryz.prog.godebug = none := by kernel_rfl
theorem rowLaidOut : laidOutB Tryz.prog = true := by kernel_rfl
theorem doorMet (os : Os) (args : Array Value) : laidMetH Tryz.prog [("speculum/octet.digits", Rows.laid_speculum_octet_digits)] ((World.doorLaid Tryz.prog 400 os).forCall (fun _ _ => 0) ⟨#[], args, []⟩).memory :=
  laidMetH_of_parts3 (fuel := 8) (laidMet_of_run' 8 (by kernel_rfl) (by kernel_rfl)) (by kernel_rfl) (by kernel_rfl)
theorem gDigits : Tryz.prog.globalNamed "speculum/octet.digits" = some 0 := by kernel_rfl
theorem tDigits : (Tryz.prog.globals[0]?).map (·.type) = some 185 := by kernel_rfl
theorem globOf {W : World} (h : laidMetH Tryz.prog [("speculum/octet.digits", Rows.laid_speculum_octet_digits)] W) : Glob (I0 W) := by
  rw [MakeChecks.laidMetH_plain _ _ _ (by kernel_rfl)] at h
  obtain ⟨ps, ⟨g0, t0, cs0, f0, p0, q0, hg0, ht0, hv0, hd0, _, _⟩, _, _⟩ := h
  obtain rfl := Option.some.inj (gDigits.symm.trans hg0)
  obtain rfl := Option.some.inj (tDigits.symm.trans ht0)
  have hc := cells_ints (l := digs) (k := .u8) Tryz.underlying185 Tryz.underlying5 (by kernel_rfl) (by kernel_rfl) hd0
  refine ⟨fun q u hq => ?_⟩
  have h1 := World.var?_cell hg0 hv0 q
  rw [← hc] at hq
  show W.cell? ⟨0, 0 + q, none⟩ = some u
  rw [Nat.zero_add, h1, ← hq]
  simp
end Go.Proofs.YtafnenafbognkaaGreatDoor
namespace Go.Proofs.YtafnenafbognkaaGreatDoor
open Sp
set_option maxRecDepth 100000
set_option maxHeartbeats 4000000
def w14_FewCond.f (k : Nat) (x0 : T_api_Cond) : Option Bool := (if (x0.Range.length : Int) ≤ 30 then (if (x0.Text.size : Int) ≤ 200 then (some (decide ((x0.Comms.length : Int) ≤ 60))) else (some false)) else (some false))
abbrev w14_FewCond.C (k : Nat) : Prop := ∀ {x0 : T_api_Cond} {x0v5 : Value} {x0v6 : Value} {F : List It} {I : IMem} {w : World} {r : Bool}, Glob I → Own I w (F) → SlR R_api_Range I x0v5 x0.Range → SlR (tInt' .u32) I x0v6 x0.Comms → w14_FewCond.f k x0 = some r →
    Calls Tryz.prog 10 #[.agg #[.int .i64 x0.Kind, .bool x0.Not, .int .i64 x0.Num, .int .u32 x0.Addr, .string x0.Text, x0v5, x0v6]] w fun e w' => ∃ v, e = .returned v ∧ v = .bool r ∧ Own I w' (F)
theorem w14_FewCond.ok (k : Nat) : w14_FewCond.C k := by
 intro x0 x0v5 x0v6 F I w r hG S x0h5 x0h6 H
 have hI := ilr I
 rw [w14_FewCond.f] at H
 refine Calls.ofFW (args := [.agg #[.int .i64 x0.Kind, .bool x0.Not, .int .i64 x0.Num, .int .u32 x0.Addr, .string x0.Text, x0v5, x0v6]]) Tryz.func10 rfl rfl <| sr <| g rfl (o_boxA rfl S fun b1 w S => mv (.bool false) rfl (sq (rg (u rfl (x_fa tf27_5 rfl) (u rfl (x_ld tsc24 rfl (S.load 0 rfl 5 rfl)) (u rfl (x_lenD (r := R_api_Range) tsl24 x0h5) (u rfl (x_bin rfl rfl rfl) (mv (.bool (decide ((x0.Range.length : Int) ≤ 30))) rfl ?_))))))))
 by_cases cc2 : (x0.Range.length : Int) ≤ 30
 ·rw [if_pos cc2] at H
  refine gu rfl rfl rfl (deT cc2) (x_fa tf27_4 rfl) <| gu rfl rfl rfl (deT cc2) (x_ld tsc9 rfl (S.load 0 rfl 4 rfl)) <| gu rfl rfl rfl (deT cc2) (x_lens tstr9 rfl) <| gu rfl rfl rfl (deT cc2) (x_bin rfl rfl rfl) <| u rfl (x_pickTV (v := .bool (decide ((x0.Text.size : Int) ≤ 200))) rfl (deT cc2) rfl) <| mv (.bool (decide ((x0.Text.size : Int) ≤ 200))) rfl ?_
  by_cases cc3 : (x0.Text.size : Int) ≤ 200
  ·rw [if_pos cc3] at H
   refine gu rfl rfl rfl (deT cc3) (x_fa tf27_6 rfl) <| gu rfl rfl rfl (deT cc3) (x_ld tsc25 rfl (S.load 0 rfl 6 rfl)) <| gu rfl rfl rfl (deT cc3) (x_lenD (r := (tInt' .u32)) tsl25 x0h6) <| gu rfl rfl rfl (deT cc3) (x_bin rfl rfl rfl) <| u rfl (x_pickTV (v := .bool (decide ((x0.Comms.length : Int) ≤ 60))) rfl (deT cc3) rfl) <| mv (.bool (decide ((x0.Comms.length : Int) ≤ 60))) rfl <| rt ?_
   obtain rfl := si H
   exact ⟨_, ⟨_, rfl, rfl⟩, ⟨rfl, ((S.sel 1 [] rfl).weaken hI)⟩⟩
  rw [if_neg cc3] at H
  refine gn rfl rfl rfl (deF cc3) <| gn rfl rfl rfl (deF cc3) <| gn rfl rfl rfl (deF cc3) <| gn rfl rfl rfl (deF cc3) <| u rfl (x_pickFV (v := .bool false) rfl (deF cc3) rfl) <| mv (.bool false) rfl <| rt ?_
  obtain rfl := si H
  exact ⟨_, ⟨_, rfl, rfl⟩, ⟨rfl, ((S.sel 1 [] rfl).weaken hI)⟩⟩
 rw [if_neg cc2] at H
 refine gn rfl rfl rfl (deF cc2) <| gn rfl rfl rfl (deF cc2) <| gn rfl rfl rfl (deF cc2) <| gn rfl rfl rfl (deF cc2) <| u rfl (x_pickFV (v := .bool false) rfl (deF cc2) rfl) <| mv (.bool false) rfl <| gn rfl rfl rfl rfl <| gn rfl rfl rfl rfl <| gn rfl rfl rfl rfl <| gn rfl rfl rfl rfl <| u rfl (x_pickFV (v := .bool false) rfl rfl rfl) <| mv (.bool false) rfl <| rt ?_
 obtain rfl := si H
 exact ⟨_, ⟨_, rfl, rfl⟩, ⟨rfl, ((S.sel 1 [] rfl).weaken hI)⟩⟩
def r04_Zero.f (k : Nat) : Option T_api_Attrs := (some (T_api_Attrs.mk 0 [] 0 (-1) (-1) false false 0 0 [] []))
abbrev r04_Zero.C (k : Nat) : Prop := ∀ {F : List It} {I : IMem} {w : World} {r : T_api_Attrs}, Glob I → Own I w (F) → r04_Zero.f k = some r →
    Calls Tryz.prog 36 #[] w fun e w' => ∃ v, e = .returned v ∧ ∃ (y_0v1 : Value) (y_0v9 : Value) (y_0v10 : Value) (J : IMem), I.le J ∧ v = .agg #[.int .i64 r.Origin, y_0v1, .int .u32 r.Next, .int .i64 r.Med, .int .i64 r.Pref, .bool r.Atomic, .bool r.HasAggr, .int .u32 r.AggrAS, .int .u32 r.AggrAddr, y_0v9, y_0v10] ∧ SlR R_api_Segment J y_0v1 r.Path ∧ SlR (tInt' .u32) J y_0v9 r.Comms ∧ SlR R_api_Raw J y_0v10 r.Raws ∧ Own J w' (F)
theorem r04_Zero.ok (k : Nat) : r04_Zero.C k := by
 intro F I w r hG S H
 have hI := ilr I
 rw [r04_Zero.f] at H
 refine Calls.ofFW (args := []) Tryz.func36 rfl rfl <| sr <| g rfl (o_all tz40 S fun b1 w S => sq (rg (u rfl (x_bld tz40 tpl40 rfl (.one rfl (.one rfl PC.nil)) rfl) (g rfl (o_stA tag40 S 0 rfl rfl rfl rfl (c1 rfl (c1 rfl (c1 rfl (c1 rfl (c1 rfl (c1 rfl (c1 rfl (c1 rfl (c1 rfl (c1 rfl (c1 rfl c0))))))))))) rfl fun w S => rt ?_)))))
 obtain rfl := si H
 exact ⟨_, ⟨_, _, _, rfl, rfl, ldA tag40 (S.loadW 0 rfl) rfl, rfl⟩, ⟨(.slice none 0 0), (.slice none 0 0), (.slice none 0 0), I, hI, rfl, (SlR.nil _ _), (SlR.nil _ _), (SlR.nil _ _), (S.sel 1 [] rfl)⟩⟩
def prefix_Mask.f (k : Nat) (x0 : Int) : Option Int := (if x0 ≤ 0 then (some 0) else (if x0 ≥ 32 then (some 4294967295) else ((nn (i64 (32 - x0))).bind fun _ => (some (shl .u32 4294967295 (i64 (32 - x0)))))))
abbrev prefix_Mask.C (k : Nat) : Prop := ∀ {x0 : Int} {F : List It} {I : IMem} {w : World} {r : Int}, Glob I → Own I w (F) → prefix_Mask.f k x0 = some r →
    Calls Tryz.prog 111 #[.int .i64 x0] w fun e w' => ∃ v, e = .returned v ∧ v = .int .u32 r ∧ Own I w' (F)
theorem prefix_Mask.ok (k : Nat) : prefix_Mask.C k := by
 intro x0 F I w r hG S H
 have hI := ilr I
 rw [prefix_Mask.f] at H
 refine Calls.ofFW (args := [.int .i64 x0]) Tryz.func111 rfl rfl <| sr <| mv (.int .u32 0) rfl <| sq <| bk <| sr <| mv (.int .i64 x0) rfl <| u rfl (x_bin rfl rfl rfl) <| mv (.bool (decide (x0 ≤ 0))) rfl ?_
 by_cases cc1 : x0 ≤ 0
 ·rw [if_pos cc1] at H
  refine cT rfl (deT cc1) <| sr <| mv (.int .u32 0) rfl <| rt ?_
  obtain rfl := si H
  exact ⟨_, ⟨_, rfl, rfl⟩, ⟨rfl, (S.weaken hI)⟩⟩
 rw [if_neg cc1] at H
 refine cF rfl (deF cc1) <| sr <| mv (.int .i64 x0) rfl <| u rfl (x_bin rfl rfl rfl) <| mv (.bool (decide (x0 ≥ 32))) rfl ?_
 by_cases cc2 : x0 ≥ 32
 ·rw [if_pos cc2] at H
  refine cT rfl (deT cc2) <| sq <| FW.anew [] trivial fun σ => rg <| mv (.int .u32 4294967295) rfl <| rt ?_
  obtain rfl := si H
  exact ⟨_, ⟨_, rfl, rfl⟩, ⟨rfl, (S.weaken hI)⟩⟩
 rw [if_neg cc2] at H
 refine cF rfl (deF cc2) <| sk <| sq <| FW.anew [(0, .int .i64 x0)] ⟨rfl, trivial⟩ fun σ => rg <| mv (.int .i64 x0) rfl <| u rfl (x_bin rfl rfl rfl) ?_
 obtain ⟨_, hn3, H⟩ := obx H
 refine u rfl (x_shl rfl rfl (nn_ok hn3)) <| mv (.int .u32 (shl .u32 4294967295 (i64 (32 - x0)))) rfl <| rt ?_
 obtain rfl := si H
 exact ⟨_, ⟨_, rfl, rfl⟩, ⟨rfl, (S.weaken hI)⟩⟩
def prefix_Right.f (k : Nat) (x0 : T_api_Prefix) : Option Bool := (if x0.Len ≥ 0 then (if x0.Len ≤ 32 then ((prefix_Mask.f k x0.Len).bind fun y5 => (some ((bandNot .u32 x0.Addr y5) == 0))) else (some false)) else (some false))
abbrev prefix_Right.C (k : Nat) : Prop := ∀ {x0 : T_api_Prefix} {F : List It} {I : IMem} {w : World} {r : Bool}, Glob I → Own I w (F) → prefix_Right.f k x0 = some r →
    Calls Tryz.prog 79 #[.agg #[.int .u32 x0.Addr, .int .i64 x0.Len]] w fun e w' => ∃ v, e = .returned v ∧ v = .bool r ∧ Own I w' (F)
theorem prefix_Right.ok (k : Nat) : prefix_Right.C k := by
 intro x0 F I w r hG S H
 have hI := ilr I
 rw [prefix_Right.f] at H
 refine Calls.ofFW (args := [.agg #[.int .u32 x0.Addr, .int .i64 x0.Len]]) Tryz.func79 rfl rfl <| sr <| g rfl (o_boxA rfl S fun b1 w S => mv (.bool false) rfl (sq ?_))
 have S := S.drew
 refine FW.regionD mixed ?_
 have hO := Hold.nil (w := { w with drawn := w.drawn + 1 })
 refine ap 0 rfl (by kernel_rfl) hO (fun w => x_fa tf36_1 rfl) ?_
 have hR2 := ilr I
 refine ak (Stab I [.bk b1 36 [.int .u32 x0.Addr, .int .i64 x0.Len]]) 1 rfl (by kernel_rfl) hO (Stab.of S 0 rfl hR2) (fun w hS => x_ld tsc3 rfl (hS.load 0 rfl 1 rfl)) fun hO => ap 2 rfl (by kernel_rfl) hO (fun w => x_bin rfl rfl rfl) <| am 3 (.bool (decide (x0.Len ≥ 0))) rfl (by kernel_rfl) hO ?_
 by_cases cc3 : x0.Len ≥ 0
 ·rw [if_pos cc3] at H
  refine AQ.pure 4 rfl (by kernel_rfl) (by kernel_rfl) (by kernel_rfl) (gT rfl rfl (deT cc3)) hO (fun w => x_fa tf36_1 rfl) <| AQ.take (S := Stab I [.bk b1 36 [.int .u32 x0.Addr, .int .i64 x0.Len]]) 5 rfl (by kernel_rfl) (by kernel_rfl) (by kernel_rfl) (gT rfl rfl (deT cc3)) hO (Stab.of S 0 rfl hR2) (fun w hS => x_ld tsc3 rfl (hS.load 0 rfl 1 rfl)) fun hO => AQ.pure 6 rfl (by kernel_rfl) (by kernel_rfl) (by kernel_rfl) (gT rfl rfl (deT cc3)) hO (fun w => x_bin rfl rfl rfl) <| ap 7 rfl (by kernel_rfl) hO (fun w => x_pickTV (v := .bool (decide (x0.Len ≤ 32))) rfl (deT cc3) rfl) <| am 8 (.bool (decide (x0.Len ≤ 32))) rfl (by kernel_rfl) hO ?_
  by_cases cc4 : x0.Len ≤ 32
  ·rw [if_pos cc4] at H
   refine AQ.pure 9 rfl (by kernel_rfl) (by kernel_rfl) (by kernel_rfl) (gT rfl rfl (deT cc4)) hO (fun w => x_fa tf36_0 rfl) <| AQ.take (S := Stab I [.bk b1 36 [.int .u32 x0.Addr, .int .i64 x0.Len]]) 10 rfl (by kernel_rfl) (by kernel_rfl) (by kernel_rfl) (gT rfl rfl (deT cc4)) hO (Stab.of S 0 rfl hR2) (fun w hS => x_ld tsc23 rfl (hS.load 0 rfl 0 rfl)) fun hO => AQ.pure 11 rfl (by kernel_rfl) (by kernel_rfl) (by kernel_rfl) (gT rfl rfl (deT cc4)) hO (fun w => x_fa tf36_1 rfl) <| AQ.take (S := Stab I [.bk b1 36 [.int .u32 x0.Addr, .int .i64 x0.Len]]) 12 rfl (by kernel_rfl) (by kernel_rfl) (by kernel_rfl) (gT rfl rfl (deT cc4)) hO (Stab.of S 0 rfl hR2) (fun w hS => x_ld tsc3 rfl (hS.load 0 rfl 1 rfl)) fun hO => AQ.one 13 [12, 10, 5, 1] [false, true, true, true] (by kernel_rfl) rfl (by kernel_rfl) ?_
   obtain ⟨y5, hy6, H⟩ := obx H
   refine OK.gt rfl rfl rfl (deT cc4) (cl fb111 (@prefix_Mask.ok k x0.Len _ _ _ _ hG S hy6) rfl ?_)
   rintro _ w ⟨rfl, S⟩
   refine andI (Hold.cons (Stab.of S 0 rfl hR2) (Hold.cons (Stab.of S 0 rfl hR2) (Hold.cons (Stab.of S 0 rfl hR2) Hold.nil))) fun hO => AQ.pure 14 rfl (by kernel_rfl) (by kernel_rfl) (by kernel_rfl) (gT rfl rfl (deT cc4)) hO (fun w => x_bin rfl rfl rfl) <| AQ.pure 15 rfl (by kernel_rfl) (by kernel_rfl) (by kernel_rfl) (gT rfl rfl (deT cc4)) hO (fun w => x_bin rfl rfl rfl) <| ap 16 rfl (by kernel_rfl) hO (fun w => x_pickTV (v := .bool ((bandNot .u32 x0.Addr y5) == 0)) rfl (deT cc4) rfl) <| ap 17 rfl (by kernel_rfl) hO (fun w => x_asgV (v := .bool ((bandNot .u32 x0.Addr y5) == 0)) rfl) <| AQ.done (by kernel_rfl) <| rt ?_
   obtain rfl := si H
   exact ⟨_, ⟨_, rfl, rfl⟩, ⟨rfl, ((S.sel 1 [] rfl).weaken hI)⟩⟩
  rw [if_neg cc4] at H
  refine AQ.skip 9 rfl (by kernel_rfl) (by kernel_rfl) (by kernel_rfl) rfl rfl (deF cc4) hO <| AQ.skip 10 rfl (by kernel_rfl) (by kernel_rfl) (by kernel_rfl) rfl rfl (deF cc4) hO <| AQ.skip 11 rfl (by kernel_rfl) (by kernel_rfl) (by kernel_rfl) rfl rfl (deF cc4) hO <| AQ.skip 12 rfl (by kernel_rfl) (by kernel_rfl) (by kernel_rfl) rfl rfl (deF cc4) hO <| AQ.skip 13 rfl (by kernel_rfl) (by kernel_rfl) (by kernel_rfl) rfl rfl (deF cc4) hO <| AQ.skip 14 rfl (by kernel_rfl) (by kernel_rfl) (by kernel_rfl) rfl rfl (deF cc4) hO <| AQ.skip 15 rfl (by kernel_rfl) (by kernel_rfl) (by kernel_rfl) rfl rfl (deF cc4) hO <| ap 16 rfl (by kernel_rfl) hO (fun w => x_pickFV (v := .bool false) rfl (deF cc4) rfl) <| ap 17 rfl (by kernel_rfl) hO (fun w => x_asgV (v := .bool false) rfl) <| AQ.done (by kernel_rfl) <| rt ?_
  obtain rfl := si H
  exact ⟨_, ⟨_, rfl, rfl⟩, ⟨rfl, ((S.sel 1 [] rfl).weaken hI)⟩⟩
 rw [if_neg cc3] at H
 refine AQ.skip 4 rfl (by kernel_rfl) (by kernel_rfl) (by kernel_rfl) rfl rfl (deF cc3) hO <| AQ.skip 5 rfl (by kernel_rfl) (by kernel_rfl) (by kernel_rfl) rfl rfl (deF cc3) hO <| AQ.skip 6 rfl (by kernel_rfl) (by kernel_rfl) (by kernel_rfl) rfl rfl (deF cc3) hO <| ap 7 rfl (by kernel_rfl) hO (fun w => x_pickFV (v := .bool false) rfl (deF cc3) rfl) <| am 8 (.bool false) rfl (by kernel_rfl) hO <| AQ.skip 9 rfl (by kernel_rfl) (by kernel_rfl) (by kernel_rfl) rfl rfl rfl hO <| AQ.skip 10 rfl (by kernel_rfl) (by kernel_rfl) (by kernel_rfl) rfl rfl rfl hO <| AQ.skip 11 rfl (by kernel_rfl) (by kernel_rfl) (by kernel_rfl) rfl rfl rfl hO <| AQ.skip 12 rfl (by kernel_rfl) (by kernel_rfl) (by kernel_rfl) rfl rfl rfl hO <| AQ.skip 13 rfl (by kernel_rfl) (by kernel_rfl) (by kernel_rfl) rfl rfl rfl hO <| AQ.skip 14 rfl (by kernel_rfl) (by kernel_rfl) (by kernel_rfl) rfl rfl rfl hO <| AQ.skip 15 rfl (by kernel_rfl) (by kernel_rfl) (by kernel_rfl) rfl rfl rfl hO <| ap 16 rfl (by kernel_rfl) hO (fun w => x_pickFV (v := .bool false) rfl rfl rfl) <| ap 17 rfl (by kernel_rfl) hO (fun w => x_asgV (v := .bool false) rfl) <| AQ.done (by kernel_rfl) <| rt ?_
 obtain rfl := si H
 exact ⟨_, ⟨_, rfl, rfl⟩, ⟨rfl, ((S.sel 1 [] rfl).weaken hI)⟩⟩
def filter_Right.f (k : Nat) (x0 : T_api_Range) : Option Bool := ((prefix_Right.f k x0.Prefix).bind fun y2 => (if y2 = true then (if x0.Min ≥ x0.Prefix.Len then (if x0.Min ≤ x0.Max then (some (decide (x0.Max ≤ 32))) else (some false)) else (some false)) else (some false)))
abbrev filter_Right.C (k : Nat) : Prop := ∀ {x0 : T_api_Range} {F : List It} {I : IMem} {w : World} {r : Bool}, Glob I → Own I w (F) → filter_Right.f k x0 = some r →
    Calls Tryz.prog 41 #[.agg #[.int .u32 x0.Prefix.Addr, .int .i64 x0.Prefix.Len, .int .i64 x0.Min, .int .i64 x0.Max]] w fun e w' => ∃ v, e = .returned v ∧ v = .bool r ∧ Own I w' (F)
theorem filter_Right.ok (k : Nat) : filter_Right.C k := by
 intro x0 F I w r hG S H
 have hI := ilr I
 rw [filter_Right.f] at H
 refine Calls.ofFW (args := [.agg #[.int .u32 x0.Prefix.Addr, .int .i64 x0.Prefix.Len, .int .i64 x0.Min, .int .i64 x0.Max]]) Tryz.func41 rfl rfl <| sr <| g rfl (o_boxA rfl S fun b1 w S => mv (.bool false) rfl (sq (rg (u rfl (x_fa tf69_0 rfl) (u rfl (x_ldA tag36 rfl (S.loadN 0 rfl 0 2) rfl) ?_)))))
 obtain ⟨y2, hy3, H⟩ := obx H
 refine g rfl (cl fb79 (@prefix_Right.ok k x0.Prefix _ _ _ _ hG S hy3) rfl ?_)
 rintro _ w ⟨rfl, S⟩
 refine mv (.bool y2) rfl ?_
 by_cases cc4 : y2 = true
 ·rw [if_pos cc4] at H
  refine gu rfl rfl rfl cc4 (x_fa tf69_1 rfl) <| gu rfl rfl rfl cc4 (x_ld tsc3 rfl (S.load 0 rfl 2 rfl)) <| gu rfl rfl rfl cc4 (x_fa tf69_0 rfl) <| gu rfl rfl rfl cc4 (x_fa tf36_1 rfl) <| gu rfl rfl rfl cc4 (x_ld tsc3 rfl (S.load 0 rfl 1 rfl)) <| gu rfl rfl rfl cc4 (x_bin rfl rfl rfl) <| u rfl (x_pickTV (v := .bool (decide (x0.Min ≥ x0.Prefix.Len))) rfl cc4 rfl) <| mv (.bool (decide (x0.Min ≥ x0.Prefix.Len))) rfl ?_
  by_cases cc5 : x0.Min ≥ x0.Prefix.Len
  ·rw [if_pos cc5] at H
   refine gu rfl rfl rfl (deT cc5) (x_fa tf69_1 rfl) <| gu rfl rfl rfl (deT cc5) (x_ld tsc3 rfl (S.load 0 rfl 2 rfl)) <| gu rfl rfl rfl (deT cc5) (x_fa tf69_2 rfl) <| gu rfl rfl rfl (deT cc5) (x_ld tsc3 rfl (S.load 0 rfl 3 rfl)) <| gu rfl rfl rfl (deT cc5) (x_bin rfl rfl rfl) <| u rfl (x_pickTV (v := .bool (decide (x0.Min ≤ x0.Max))) rfl (deT cc5) rfl) <| mv (.bool (decide (x0.Min ≤ x0.Max))) rfl ?_
   by_cases cc6 : x0.Min ≤ x0.Max
   ·rw [if_pos cc6] at H
    refine gu rfl rfl rfl (deT cc6) (x_fa tf69_2 rfl) <| gu rfl rfl rfl (deT cc6) (x_ld tsc3 rfl (S.load 0 rfl 3 rfl)) <| gu rfl rfl rfl (deT cc6) (x_bin rfl rfl rfl) <| u rfl (x_pickTV (v := .bool (decide (x0.Max ≤ 32))) rfl (deT cc6) rfl) <| mv (.bool (decide (x0.Max ≤ 32))) rfl <| rt ?_
    obtain rfl := si H
    exact ⟨_, ⟨_, rfl, rfl⟩, ⟨rfl, ((S.sel 1 [] rfl).weaken hI)⟩⟩
   rw [if_neg cc6] at H
   refine gn rfl rfl rfl (deF cc6) <| gn rfl rfl rfl (deF cc6) <| gn rfl rfl rfl (deF cc6) <| u rfl (x_pickFV (v := .bool false) rfl (deF cc6) rfl) <| mv (.bool false) rfl <| rt ?_
   obtain rfl := si H
   exact ⟨_, ⟨_, rfl, rfl⟩, ⟨rfl, ((S.sel 1 [] rfl).weaken hI)⟩⟩
  rw [if_neg cc5] at H
  refine gn rfl rfl rfl (deF cc5) <| gn rfl rfl rfl (deF cc5) <| gn rfl rfl rfl (deF cc5) <| gn rfl rfl rfl (deF cc5) <| gn rfl rfl rfl (deF cc5) <| u rfl (x_pickFV (v := .bool false) rfl (deF cc5) rfl) <| mv (.bool false) rfl <| gn rfl rfl rfl rfl <| gn rfl rfl rfl rfl <| gn rfl rfl rfl rfl <| u rfl (x_pickFV (v := .bool false) rfl rfl rfl) <| mv (.bool false) rfl <| rt ?_
  obtain rfl := si H
  exact ⟨_, ⟨_, rfl, rfl⟩, ⟨rfl, ((S.sel 1 [] rfl).weaken hI)⟩⟩
 rw [if_neg cc4] at H
 refine gn rfl rfl rfl (vaF cc4) <| gn rfl rfl rfl (vaF cc4) <| gn rfl rfl rfl (vaF cc4) <| gn rfl rfl rfl (vaF cc4) <| gn rfl rfl rfl (vaF cc4) <| gn rfl rfl rfl (vaF cc4) <| u rfl (x_pickFV (v := .bool false) rfl (vaF cc4) rfl) <| mv (.bool false) rfl <| gn rfl rfl rfl rfl <| gn rfl rfl rfl rfl <| gn rfl rfl rfl rfl <| gn rfl rfl rfl rfl <| gn rfl rfl rfl rfl <| u rfl (x_pickFV (v := .bool false) rfl rfl rfl) <| mv (.bool false) rfl <| gn rfl rfl rfl rfl <| gn rfl rfl rfl rfl <| gn rfl rfl rfl rfl <| u rfl (x_pickFV (v := .bool false) rfl rfl rfl) <| mv (.bool false) rfl <| rt ?_
 obtain rfl := si H
 exact ⟨_, ⟨_, rfl, rfl⟩, ⟨rfl, ((S.sel 1 [] rfl).weaken hI)⟩⟩
def policy_RightCond_1.f (k : Nat) (x0 : T_api_Range) : Option Bool := ((filter_Right.f k x0).bind fun y2 => (some (!y2)))
abbrev policy_RightCond_1.C (k : Nat) : Prop := ∀ {x0 : T_api_Range} {F : List It} {I : IMem} {w : World} {r : Bool}, Glob I → Own I w (F) → policy_RightCond_1.f k x0 = some r →
    Calls Tryz.prog 40 #[.agg #[.int .u32 x0.Prefix.Addr, .int .i64 x0.Prefix.Len, .int .i64 x0.Min, .int .i64 x0.Max]] w fun e w' => ∃ v, e = .returned v ∧ v = .bool r ∧ Own I w' (F)
theorem policy_RightCond_1.ok (k : Nat) : policy_RightCond_1.C k := by
 intro x0 F I w r hG S H
 have hI := ilr I
 rw [policy_RightCond_1.f] at H
 refine Calls.ofFW (args := [.agg #[.int .u32 x0.Prefix.Addr, .int .i64 x0.Prefix.Len, .int .i64 x0.Min, .int .i64 x0.Max]]) Tryz.func40 rfl rfl <| sr <| g rfl (o_boxA rfl S fun b1 w S => mv (.bool false) rfl (sq (rg (u rfl (x_ldA tag69 rfl (S.loadW 0 rfl) rfl) ?_))))
 obtain ⟨y2, hy3, H⟩ := obx H
 refine g rfl (cl fb41 (@filter_Right.ok k x0 _ _ _ _ hG S hy3) rfl ?_)
 rintro _ w ⟨rfl, S⟩
 refine u rfl (x_not' rfl) <| mv (.bool (!y2)) rfl <| rt ?_
 obtain rfl := si H
 exact ⟨_, ⟨_, rfl, rfl⟩, ⟨rfl, ((S.sel 1 [] rfl).weaken hI)⟩⟩
def sI_80_w140.l0 : Nat → (List T_api_Range) → Int → Option (Sum Int Unit)
  | 0, _, _ => none
  | k + 1, x0, n2 => (if n2 < (x0.length : Int) then ((lat x0 n2).bind fun y11 => ((policy_RightCond_1.f k y11).bind fun y18 => (if y18 = true then (some (.inl n2)) else (sI_80_w140.l0 k x0 (i64 (n2 + 1)))))) else (some (.inr ())))
def sI_80_w140.f (k : Nat) (x0 : (List T_api_Range)) : Option Int := (((sI_80_w140.l0 k x0 0) : Option (Sum Int Unit)).bind fun o => match o with | .inl r => some r | .inr _ => (some (-1)))
abbrev sI_80_w140.C (k : Nat) : Prop := ∀ {x0 : (List T_api_Range)} {vx0 : Value} {F : List It} {I : IMem} {w : World} {r : Int}, Glob I → Own I w (F) → SlR R_api_Range I vx0 x0 → sI_80_w140.f k x0 = some r →
    Calls Tryz.prog 80 #[vx0, .func (.func 40) #[] #[]] w fun e w' => ∃ v, e = .returned v ∧ v = .int .i64 r ∧ Own I w' (F)
theorem sI_80_w140.ok (k : Nat) : sI_80_w140.C k := by
 intro x0 vx0 F I w r hG S hx0 H
 have hI := ilr I
 rw [sI_80_w140.f] at H
 refine Calls.ofFW (args := [vx0, .func (.func 40) #[] #[]]) Tryz.func80 rfl rfl <| sr <| mv (.int .i64 0) rfl <| sq <| sr <| mv vx0 rfl <| u rfl (x_lenD (r := R_api_Range) tsl24 hx0) <| mv (.int .i64 0) rfl <| bk ?_
 obtain ⟨o5, hl7, HO6⟩ := obx H
 refine FW.cutX 0 (fun σ w => ∃ (J8 : IMem), (.inr ()) = o5 ∧ Has σ [] ∧ I.le J8 ∧ Own J8 w (F)) ?_ ?_
 ·refine FW.loop k (FL.ind (fun q σ w => ∃ (n2 : Int) (J1 : IMem), sI_80_w140.l0 q x0 n2 = some o5 ∧ q ≤ k ∧ Has σ [(0, vx0), (1, .func (.func 40) #[] #[]), (7, .int .i64 (x0.length : Int)), (8, .int .i64 n2)] ∧ I.le J1 ∧ Own J1 w (F)) ?_ ?_ k k _ _ (Nat.le_refl _) ⟨0, I, hl7, Nat.le_refl _, ⟨rfl, rfl, rfl, rfl, trivial⟩, (ilr _), S⟩)
  ·rintro σ w ⟨n2, J1, H, _⟩; cases H
  rintro q3 σ w ⟨n2, J1, H, hq9, hσ, hL4, S⟩
  have hx0 := hx0.mono hL4
  have hI := hI.trans hL4
  have hG := hG.mono hL4
  rw [hσ.eq]
  rw [sI_80_w140.l0] at H
  refine sr <| u rfl (x_bin rfl rfl rfl) <| sq ?_
  by_cases cc10 : n2 < (x0.length : Int)
  ·rw [if_pos cc10] at H
   refine cT rfl (deT cc10) <| sk <| sq <| bk <| sr <| mv (.int .i64 n2) rfl <| mv (.int .i64 n2) rfl <| sr <| mv (.func (.func 40) #[] #[]) rfl <| mv vx0 rfl <| mv (.int .i64 n2) rfl ?_
   obtain ⟨y11, h12, H⟩ := obx H
   refine g rfl (o_ia (r := R_api_Range) tsl24 rfl rfl hx0 rfl h12 fun b13 o14 cs15 hr16 hc17 => ?_)
   obtain rfl := hr16
   refine u rfl (x_ldA tag69 rfl (S.loadI hc17) rfl) ?_
   obtain ⟨y18, hy19, H⟩ := obx H
   refine g rfl (clv rfl fb40 (@policy_RightCond_1.ok q3 y11 _ _ _ _ hG S hy19) rfl ?_)
   rintro _ w ⟨rfl, S⟩
   by_cases cc20 : y18 = true
   ·rw [if_pos cc20] at H
    refine cT rfl cc20 <| sq <| FW.anew [(5, .int .i64 n2)] ⟨rfl, trivial⟩ fun σ => rg <| mv (.int .i64 n2) rfl <| mv (.int .i64 n2) rfl <| rt ?_
    obtain rfl := si H
    obtain rfl := si HO6
    exact ⟨_, ⟨_, rfl, rfl⟩, ⟨rfl, (S.weaken hI)⟩⟩
   rw [if_neg cc20] at H
   refine cF rfl (vaF cc20) <| sk <| FW.anew [(0, vx0), (1, .func (.func 40) #[] #[]), (7, .int .i64 (x0.length : Int)), (8, .int .i64 n2)] ⟨rfl, rfl, rfl, rfl, trivial⟩ fun σ => rg <| u rfl (x_bin rfl rfl rfl) <| mv (.int .i64 (i64 (n2 + 1))) rfl ⟨q3, Nat.le_refl _, (i64 (n2 + 1)), J1, H, (Nat.le_of_succ_le hq9), ⟨rfl, rfl, rfl, rfl, trivial⟩, hL4, S⟩
  rw [if_neg cc10] at H
  refine cF rfl (deF cc10) <| ex ⟨J1, (si H), trivial, hL4, S⟩
 rintro σ w ⟨J8, ho, hσ, hL4, S⟩
 subst ho
 have H := HO6
 try dsimp only at H
 have hI := hI.trans hL4
 rw [hσ.eq]
 refine sr <| mv (.int .i64 (-1)) rfl <| rt ?_
 obtain rfl := si H
 exact ⟨_, ⟨_, rfl, rfl⟩, ⟨rfl, (S.weaken hI)⟩⟩
def sC_42_w140.f (k : Nat) (x0 : (List T_api_Range)) : Option Bool := ((sI_80_w140.f k x0).bind fun y1 => (some (decide (y1 ≥ 0))))
abbrev sC_42_w140.C (k : Nat) : Prop := ∀ {x0 : (List T_api_Range)} {vx0 : Value} {F : List It} {I : IMem} {w : World} {r : Bool}, Glob I → Own I w (F) → SlR R_api_Range I vx0 x0 → sC_42_w140.f k x0 = some r →
    Calls Tryz.prog 42 #[vx0, .func (.func 40) #[] #[]] w fun e w' => ∃ v, e = .returned v ∧ v = .bool r ∧ Own I w' (F)
theorem sC_42_w140.ok (k : Nat) : sC_42_w140.C k := by
 intro x0 vx0 F I w r hG S hx0 H
 have hI := ilr I
 rw [sC_42_w140.f] at H
 refine Calls.ofFW (args := [vx0, .func (.func 40) #[] #[]]) Tryz.func42 rfl rfl <| sr <| mv (.bool false) rfl <| sr <| mv vx0 rfl <| mv (.func (.func 40) #[] #[]) rfl ?_
 obtain ⟨y1, hy2, H⟩ := obx H
 refine g rfl (cl fb80 (@sI_80_w140.ok k x0 _ _ _ _ _ hG S hx0 hy2) rfl ?_)
 rintro _ w ⟨rfl, S⟩
 refine u rfl (x_bin rfl rfl rfl) <| mv (.bool (decide (y1 ≥ 0))) rfl <| rt ?_
 obtain rfl := si H
 exact ⟨_, ⟨_, rfl, rfl⟩, ⟨rfl, (S.weaken hI)⟩⟩
def octet_value.l0 : Nat → Int → Int → Option (Sum Int Unit)
  | 0, _, _ => none
  | k + 1, x0, n2 => (if n2 < 16 then ((lat digs n2).bind fun y11 => (if x0 = y11 then (some (.inl (u8 n2))) else (octet_value.l0 k x0 (i64 (n2 + 1))))) else (some (.inr ())))
def octet_value.f (k : Nat) (x0 : Int) : Option Int := (((octet_value.l0 k x0 0) : Option (Sum Int Unit)).bind fun o => match o with | .inl r => some r | .inr _ => (some 16))
abbrev octet_value.C (k : Nat) : Prop := ∀ {x0 : Int} {F : List It} {I : IMem} {w : World} {r : Int}, Glob I → Own I w (F) → octet_value.f k x0 = some r →
    Calls Tryz.prog 139 #[.int .u8 x0] w fun e w' => ∃ v, e = .returned v ∧ v = .int .u8 r ∧ Own I w' (F)
theorem octet_value.ok (k : Nat) : octet_value.C k := by
 intro x0 F I w r hG S H
 have hI := ilr I
 rw [octet_value.f] at H
 refine Calls.ofFW (args := [.int .u8 x0]) Tryz.func139 rfl rfl <| sr <| mv (.int .u8 0) rfl <| sq <| sr <| u rfl (x_ldA tag185 rfl (S.loadI hG.g0) rfl) <| mv (.int .i64 0) rfl <| bk ?_
 obtain ⟨o5, hl7, HO6⟩ := obx H
 refine FW.cutX 0 (fun σ w => ∃ (J8 : IMem), (.inr ()) = o5 ∧ Has σ [] ∧ I.le J8 ∧ Own J8 w (F)) ?_ ?_
 ·refine FW.loop k (FL.ind (fun q σ w => ∃ (n2 : Int) (J1 : IMem), octet_value.l0 q x0 n2 = some o5 ∧ q ≤ k ∧ Has σ [(0, .int .u8 x0), (5, .agg (digs.map (Value.int .u8)).toArray), (6, .int .i64 n2)] ∧ I.le J1 ∧ Own J1 w (F)) ?_ ?_ k k _ _ (Nat.le_refl _) ⟨0, I, hl7, Nat.le_refl _, ⟨rfl, rfl, rfl, trivial⟩, (ilr _), S⟩)
  ·rintro σ w ⟨n2, J1, H, _⟩; cases H
  rintro q3 σ w ⟨n2, J1, H, hq9, hσ, hL4, S⟩
  have hI := hI.trans hL4
  rw [hσ.eq]
  rw [octet_value.l0] at H
  refine sr <| u rfl (x_bin rfl rfl rfl) <| sq ?_
  by_cases cc10 : n2 < 16
  ·rw [if_pos cc10] at H
   refine cT rfl (deT cc10) <| sk <| sq <| bk <| sr <| mv (.int .i64 n2) rfl ?_
   obtain ⟨y11, h12, H⟩ := obx H
   refine u rfl (x_idxG tar185 tsc5 rfl rfl rfl rfl h12) <| mv (.int .i64 n2) rfl <| mv (.int .u8 y11) rfl <| sr <| mv (.int .u8 x0) rfl <| mv (.int .u8 y11) rfl <| u rfl (x_bin rfl rfl rfl) ?_
   by_cases cc13 : x0 = y11
   ·rw [if_pos cc13] at H
    refine cT rfl (eqT cc13) <| sq <| FW.anew [(3, .int .i64 n2)] ⟨rfl, trivial⟩ fun σ => rg <| mv (.int .i64 n2) rfl <| u rfl (x_conv tint5 tint_3 rfl) <| mv (.int .u8 (u8 n2)) rfl <| rt ?_
    obtain rfl := si H
    obtain rfl := si HO6
    exact ⟨_, ⟨_, rfl, rfl⟩, ⟨rfl, (S.weaken hI)⟩⟩
   rw [if_neg cc13] at H
   refine cF rfl (eqF cc13) <| sk <| FW.anew [(0, .int .u8 x0), (5, .agg (digs.map (Value.int .u8)).toArray), (6, .int .i64 n2)] ⟨rfl, rfl, rfl, trivial⟩ fun σ => rg <| u rfl (x_bin rfl rfl rfl) <| mv (.int .i64 (i64 (n2 + 1))) rfl ⟨q3, Nat.le_refl _, (i64 (n2 + 1)), J1, H, (Nat.le_of_succ_le hq9), ⟨rfl, rfl, rfl, trivial⟩, hL4, S⟩
  rw [if_neg cc10] at H
  refine cF rfl (deF cc10) <| ex ⟨J1, (si H), trivial, hL4, S⟩
 rintro σ w ⟨J8, ho, hσ, hL4, S⟩
 subst ho
 have H := HO6
 try dsimp only at H
 have hI := hI.trans hL4
 rw [hσ.eq]
 refine sr <| mv (.int .u8 16) rfl <| rt ?_
 obtain rfl := si H
 exact ⟨_, ⟨_, rfl, rfl⟩, ⟨rfl, (S.weaken hI)⟩⟩
def octet_Text.l0 : Nat → Int → Int → (List Int) → Option (Int × (List Int))
  | 0, _, _, _ => none
  | k + 1, n9, n10, l11 => ((lat digs (n9.tmod 10)).bind fun y25 => ((lat l11 (i64 (n10 - 1))).bind fun y29 => (if (u64 (n9.tdiv 10)) = 0 then (some ((i64 (n10 - 1)), (l11.set (i64 (n10 - 1)).toNat y25))) else (octet_Text.l0 k (u64 (n9.tdiv 10)) (i64 (n10 - 1)) (l11.set (i64 (n10 - 1)).toNat y25)))))
def octet_Text.f (k : Nat) (x0 : Int) : Option ByteArray := ((if x0 < 0 then (some (u64 (0 - (u64 x0)))) else (some (u64 x0))).bind fun n2 => ((octet_Text.l0 k n2 20 [0, 0, 0, 0, 0, 0, 0, 0, 0, 0, 0, 0, 0, 0, 0, 0, 0, 0, 0, 0]).bind fun (n20, l21) => (if x0 < 0 then ((cutL l21 n20).bind fun l44 => ((scat (⟨#[45]⟩) (ofB l44)).bind fun s47 => (some s47))) else ((cutL l21 n20).bind fun l53 => (some (ofB l53))))))
abbrev octet_Text.C (k : Nat) : Prop := ∀ {x0 : Int} {F : List It} {I : IMem} {w : World} {r : ByteArray}, Glob I → Own I w (F) → octet_Text.f k x0 = some r →
    Calls Tryz.prog 140 #[.int .i64 x0] w fun e w' => ∃ v, e = .returned v ∧ v = .string r ∧ Own I w' (F)
theorem octet_Text.ok (k : Nat) : octet_Text.C k := by
 intro x0 F I w r hG S H
 have hI := ilr I
 rw [octet_Text.f] at H
 refine Calls.ofFW (args := [.int .i64 x0]) Tryz.func140 rfl rfl <| sr <| mv (.string (⟨#[]⟩)) rfl <| sr <| mv (.int .i64 x0) rfl <| u rfl (x_conv tint186 tint_3 rfl) <| mv (.int .u64 (u64 x0)) rfl <| sq <| sr <| mv (.int .i64 x0) rfl <| u rfl (x_bin rfl rfl rfl) ?_
 obtain ⟨o3, H, HO4⟩ := obx H
 have hL5 := ilr I
 refine FW.cutN (fun σ w => ∃ (n2 : Int) (J1 : IMem), n2 = o3 ∧ Has σ [(0, .int .i64 x0), (3, .int .u64 n2)] ∧ I.le J1 ∧ Own J1 w (F)) ?_ ?_
 ·by_cases cc6 : x0 < 0
  ·rw [if_pos cc6] at H
   refine cT rfl (deT cc6) <| rg <| mv (.int .u64 (u64 x0)) rfl <| u rfl (x_neg rfl) <| mv (.int .u64 (u64 (0 - (u64 x0)))) rfl ⟨(u64 (0 - (u64 x0))), I, (si H), ⟨rfl, rfl, trivial⟩, hL5, S⟩
  rw [if_neg cc6] at H
  refine cF rfl (deF cc6) <| sk ⟨(u64 x0), I, (si H), ⟨rfl, rfl, trivial⟩, hL5, S⟩
 rintro σ w ⟨n2, J1, ho, hσ, hL5, S⟩
 subst ho
 have H := HO4
 have hI := hI.trans hL5
 have hG := hG.mono hL5
 rw [hσ.eq]
 refine sr <| u rfl (x_bldA tar187 tz187 rfl PC.nil rfl) <| g rfl (o_all tz187 S fun b7 w S => g rfl (o_stA tag187 S 0 rfl rfl rfl rfl (c1 rfl (c1 rfl (c1 rfl (c1 rfl (c1 rfl (c1 rfl (c1 rfl (c1 rfl (c1 rfl (c1 rfl (c1 rfl (c1 rfl (c1 rfl (c1 rfl (c1 rfl (c1 rfl (c1 rfl (c1 rfl (c1 rfl (c1 rfl c0)))))))))))))))))))) rfl fun w S => ?_))
 have S := S.toAvAt 0 rfl 20 1 rfl rfl
 refine sr <| mv (.int .i64 20) rfl <| sq <| bk ?_
 obtain ⟨o16, hl18, HO17⟩ := obx H
 refine FW.cutX 0 (fun σ w => ∃ (n20 : Int) (l21 : (List Int)) (a22 : List Value) (J19 : IMem), (n20, l21) = o16 ∧ Has σ [(0, .int .i64 x0), (4, pt b7), (5, .int .i64 n20)] ∧ J1.le J19 ∧ Own J19 w (.av (.slice (some ⟨b7, 0, none⟩) 20 20) 187 1 a22 :: F) ∧ Flat (tInt' .u8) J19 a22 l21) ?_ ?_
 ·refine FW.loop k (FL.ind (fun q σ w => ∃ (n9 : Int) (n10 : Int) (l11 : (List Int)) (a12 : List Value) (J8 : IMem), octet_Text.l0 q n9 n10 l11 = some o16 ∧ q ≤ k ∧ Has σ [(0, .int .i64 x0), (3, .int .u64 n9), (4, pt b7), (5, .int .i64 n10)] ∧ J1.le J8 ∧ Own J8 w (.av (.slice (some ⟨b7, 0, none⟩) 20 20) 187 1 a12 :: F) ∧ Flat (tInt' .u8) J8 a12 l11) ?_ ?_ k k _ _ (Nat.le_refl _) ⟨n2, 20, [0, 0, 0, 0, 0, 0, 0, 0, 0, 0, 0, 0, 0, 0, 0, 0, 0, 0, 0, 0], ([0, 0, 0, 0, 0, 0, 0, 0, 0, 0, 0, 0, 0, 0, 0, 0, 0, 0, 0, 0].map (Value.int .u8)), J1, hl18, Nat.le_refl _, ⟨rfl, rfl, rfl, rfl, trivial⟩, (ilr _), S, (flatI .u8 _ [0, 0, 0, 0, 0, 0, 0, 0, 0, 0, 0, 0, 0, 0, 0, 0, 0, 0, 0, 0])⟩)
  ·rintro σ w ⟨n9, n10, l11, a12, J8, H, _⟩; cases H
  rintro q14 σ w ⟨n9, n10, l11, a12, J8, H, hq24, hσ, hL15, S, h13⟩
  have hG := hG.mono hL15
  rw [hσ.eq]
  rw [octet_Text.l0] at H
  refine bk <| sr <| mv (.int .i64 n10) rfl <| u rfl (x_bin rfl rfl rfl) <| mv (.int .i64 (i64 (n10 - 1))) rfl <| sr <| mv (.int .i64 (i64 (n10 - 1))) rfl <| mv (.int .u64 n9) rfl <| u rfl (x_rem rfl rfl (by decide)) ?_
  obtain ⟨y25, h26, H⟩ := obx H
  refine g rfl (o_iaG tar185 rfl hG.g0 rfl rfl rfl h26 fun o27 hg28 => u rfl (x_ld tsc5 rfl (S.cell _ _ _ hg28)) ?_)
  obtain ⟨y29, h30, H⟩ := obx H
  obtain ⟨h31, h32, cc33, hr34, hc35⟩ := aa_at (r := (tInt' .u8)) S 0 rfl h13 rfl rfl h30
  refine u rfl (x_iaA0 tar187 rfl rfl h31 h32) ?_
  obtain rfl := hr34
  refine g rfl (o_stV (r := (tInt' .u8)) (f := 0) (y' := y25) tone5 rfl S 0 rfl rfl h13 h30 rfl hc35 rfl rfl rfl rfl rfl fun w a36 S h37 => sq (FW.anew [(0, .int .i64 x0), (3, .int .u64 n9), (4, pt b7), (5, .int .i64 (i64 (n10 - 1)))] ⟨rfl, rfl, rfl, rfl, trivial⟩ fun σ => rg (mv (.int .u64 n9) rfl (u rfl (x_quo rfl rfl (by decide)) (mv (.int .u64 (u64 (n9.tdiv 10))) rfl (sq (rg (mv (.int .u64 (u64 (n9.tdiv 10))) rfl (u rfl (x_bin rfl rfl rfl) ?_)))))))))
  by_cases cc38 : (u64 (n9.tdiv 10)) = 0
  ·rw [if_pos cc38] at H
   refine cT rfl (eqT cc38) <| ex ⟨(i64 (n10 - 1)), (l11.set (i64 (n10 - 1)).toNat y25), a36, J8, (si H), ⟨rfl, rfl, rfl, trivial⟩, hL15, S, h37⟩
  rw [if_neg cc38] at H
  refine cF rfl (eqF cc38) <| sk ⟨q14, Nat.le_refl _, (u64 (n9.tdiv 10)), (i64 (n10 - 1)), (l11.set (i64 (n10 - 1)).toNat y25), a36, J8, H, (Nat.le_of_succ_le hq24), ⟨rfl, rfl, rfl, rfl, trivial⟩, hL15, S, h37⟩
 rintro σ w ⟨n20, l21, a22, J19, ho, hσ, hL15, S, h23⟩
 subst ho
 have H := HO17
 try dsimp only at H
 have hI := hI.trans hL15
 rw [hσ.eq]
 refine sq <| sr <| mv (.int .i64 x0) rfl <| u rfl (x_bin rfl rfl rfl) ?_
 by_cases cc39 : x0 < 0
 ·rw [if_pos cc39] at H
  refine cT rfl (deT cc39) <| sr <| mv (.int .i64 n20) rfl ?_
  obtain ⟨J41, hJ43, S, h42⟩ := S.freeze (r := (tInt' .u8)) (l := l21) 0 rfl h23 rfl rfl
  have hI := hI.trans hJ43
  obtain ⟨l44, h40, H⟩ := obx H
  refine g rfl (o_cutAL (r := (tInt' .u8)) tar187 rfl h42 rfl rfl h40 fun v45 h46 => u rfl (x_bts tbs84_9 S.cell h46) ?_)
  obtain ⟨s47, h48, H⟩ := obx H
  refine u rfl (x_catD rfl rfl h48) <| mv (.string s47) rfl <| rt ?_
  obtain rfl := si H
  exact ⟨_, ⟨_, rfl, rfl⟩, ⟨rfl, ((S.sel 1 [] rfl).weaken hI)⟩⟩
 rw [if_neg cc39] at H
 refine cF rfl (deF cc39) <| sk <| sr <| mv (.int .i64 n20) rfl ?_
 obtain ⟨J50, hJ52, S, h51⟩ := S.freeze (r := (tInt' .u8)) (l := l21) 0 rfl h23 rfl rfl
 have hI := hI.trans hJ52
 obtain ⟨l53, h49, H⟩ := obx H
 refine g rfl (o_cutAL (r := (tInt' .u8)) tar187 rfl h51 rfl rfl h49 fun v54 h55 => u rfl (x_bts tbs84_9 S.cell h55) (mv (.string (ofB l53)) rfl (rt ?_)))
 obtain rfl := si H
 exact ⟨_, ⟨_, rfl, rfl⟩, ⟨rfl, ((S.sel 1 [] rfl).weaken hI)⟩⟩
def octet_Int.l0 : Nat → ByteArray → Int → Int → Option (Sum (Int × Bool) Int)
  | 0, _, _, _ => none
  | k + 1, x0, n2, n3 => (if n3 < (x0.size : Int) then ((sat x0 n3).bind fun y13 => ((octet_value.f k y13).bind fun y15 => (if y15 > 9 then (some (.inl (0, false))) else (if n2 > 4294967295 then (some (.inl (0, false))) else (octet_Int.l0 k x0 (i64 ((i64 (10 * n2)) + (i64 y15))) (i64 (n3 + 1))))))) else (some (.inr n2)))
def octet_Int.f (k : Nat) (x0 : ByteArray) : Option (Int × Bool) := (((octet_Int.l0 k x0 0 0) : Option (Sum (Int × Bool) Int)).bind fun o => match o with | .inl r => some r | .inr n10 => (if x0 = (⟨#[]⟩) then (some (0, false)) else (if n10 > 4294967295 then (some (0, false)) else ((octet_Text.f k n10).bind fun y21 => (if y21 = x0 then (some (n10, true)) else (some (0, false)))))))
abbrev octet_Int.C (k : Nat) : Prop := ∀ {x0 : ByteArray} {F : List It} {I : IMem} {w : World} {r : Int × Bool}, Glob I → Own I w (F) → octet_Int.f k x0 = some r →
    Calls Tryz.prog 113 #[.string x0] w fun e w' => ∃ v, e = .returned v ∧ v = .tuple #[.int .i64 r.1, .bool r.2] ∧ Own I w' (F)
theorem octet_Int.ok (k : Nat) : octet_Int.C k := by
 intro x0 F I w r hG S H
 have hI := ilr I
 rw [octet_Int.f] at H
 refine Calls.ofFW (args := [.string x0]) Tryz.func113 rfl rfl <| sr <| mv (.int .i64 0) rfl <| mv (.bool false) rfl <| sr <| mv (.int .i64 0) rfl <| sq <| sr <| mv (.string x0) rfl <| u rfl (x_lens tstr9 rfl) <| mv (.int .i64 0) rfl <| bk ?_
 obtain ⟨o6, hl8, HO7⟩ := obx H
 refine FW.cutX 0 (fun σ w => ∃ (n10 : Int) (J9 : IMem), (.inr n10) = o6 ∧ Has σ [(0, .string x0), (4, .int .i64 n10)] ∧ I.le J9 ∧ Own J9 w (F)) ?_ ?_
 ·refine FW.loop k (FL.ind (fun q σ w => ∃ (n2 : Int) (n3 : Int) (J1 : IMem), octet_Int.l0 q x0 n2 n3 = some o6 ∧ q ≤ k ∧ Has σ [(0, .string x0), (4, .int .i64 n2), (8, .int .i64 (x0.size : Int)), (9, .int .i64 n3)] ∧ I.le J1 ∧ Own J1 w (F)) ?_ ?_ k k _ _ (Nat.le_refl _) ⟨0, 0, I, hl8, Nat.le_refl _, ⟨rfl, rfl, rfl, rfl, trivial⟩, (ilr _), S⟩)
  ·rintro σ w ⟨n2, n3, J1, H, _⟩; cases H
  rintro q4 σ w ⟨n2, n3, J1, H, hq11, hσ, hL5, S⟩
  have hI := hI.trans hL5
  have hG := hG.mono hL5
  rw [hσ.eq]
  rw [octet_Int.l0] at H
  refine sr <| u rfl (x_bin rfl rfl rfl) <| sq ?_
  by_cases cc12 : n3 < (x0.size : Int)
  ·rw [if_pos cc12] at H
   refine cT rfl (deT cc12) <| sk <| sq <| bk <| sr <| mv (.int .i64 n3) rfl <| mv (.int .i64 n3) rfl <| sr <| mv (.string x0) rfl <| mv (.int .i64 n3) rfl ?_
   obtain ⟨y13, h14, H⟩ := obx H
   refine u rfl (x_sat tstr9 rfl rfl h14) ?_
   obtain ⟨y15, hy16, H⟩ := obx H
   refine g rfl (cl fb139 (@octet_value.ok q4 y13 _ _ _ _ hG S hy16) rfl ?_)
   rintro _ w ⟨rfl, S⟩
   refine mv (.int .u8 y15) rfl <| sq <| sq <| FW.anew [(0, .string x0), (4, .int .i64 n2), (6, .int .u8 y15), (8, .int .i64 (x0.size : Int)), (9, .int .i64 n3)] ⟨rfl, rfl, rfl, rfl, rfl, trivial⟩ fun σ => rg <| mv (.int .u8 y15) rfl <| u rfl (x_bin rfl rfl rfl) <| mv (.bool (decide (y15 > 9))) rfl ?_
   by_cases cc17 : y15 > 9
   ·rw [if_pos cc17] at H
    refine gn rfl rfl rfl (deT cc17) <| gn rfl rfl rfl (deT cc17) <| u rfl (x_pickTV (v := .bool true) rfl (deT cc17) rfl) <| cT rfl rfl <| sr <| mv (.int .i64 0) rfl <| mv (.bool false) rfl <| rt ?_
    obtain rfl := si H
    obtain rfl := si HO7
    exact ⟨_, ⟨_, rfl, ⟨_, rfl, rfl⟩⟩, ⟨rfl, (S.weaken hI)⟩⟩
   rw [if_neg cc17] at H
   refine gu rfl rfl rfl (deF cc17) (x_movV (v := .int .i64 n2) rfl) <| gu rfl rfl rfl (deF cc17) (x_bin rfl rfl rfl) <| u rfl (x_pickFV (v := .bool (decide (n2 > 4294967295))) rfl (deF cc17) rfl) ?_
   by_cases cc18 : n2 > 4294967295
   ·rw [if_pos cc18] at H
    refine cT rfl (deT cc18) <| sr <| mv (.int .i64 0) rfl <| mv (.bool false) rfl <| rt ?_
    obtain rfl := si H
    obtain rfl := si HO7
    exact ⟨_, ⟨_, rfl, ⟨_, rfl, rfl⟩⟩, ⟨rfl, (S.weaken hI)⟩⟩
   rw [if_neg cc18] at H
   refine cF rfl (deF cc18) <| sk <| rg <| mv (.int .i64 n2) rfl <| u rfl (x_bin rfl rfl rfl) <| mv (.int .u8 y15) rfl <| u rfl (x_conv tint3 tint_5 rfl) <| u rfl (x_bin rfl rfl rfl) <| mv (.int .i64 (i64 ((i64 (10 * n2)) + (i64 y15)))) rfl <| FW.anew [(0, .string x0), (4, .int .i64 (i64 ((i64 (10 * n2)) + (i64 y15)))), (8, .int .i64 (x0.size : Int)), (9, .int .i64 n3)] ⟨rfl, rfl, rfl, rfl, trivial⟩ fun σ => rg <| u rfl (x_bin rfl rfl rfl) <| mv (.int .i64 (i64 (n3 + 1))) rfl ⟨q4, Nat.le_refl _, (i64 ((i64 (10 * n2)) + (i64 y15))), (i64 (n3 + 1)), J1, H, (Nat.le_of_succ_le hq11), ⟨rfl, rfl, rfl, rfl, trivial⟩, hL5, S⟩
  rw [if_neg cc12] at H
  refine cF rfl (deF cc12) <| ex ⟨n2, J1, (si H), ⟨rfl, rfl, trivial⟩, hL5, S⟩
 rintro σ w ⟨n10, J9, ho, hσ, hL5, S⟩
 subst ho
 have H := HO7
 try dsimp only at H
 have hI := hI.trans hL5
 have hG := hG.mono hL5
 rw [hσ.eq]
 refine sq <| sr <| mv (.string x0) rfl <| u rfl (x_seq rfl rfl) <| mv (.bool (decide (x0 = (⟨#[]⟩)))) rfl ?_
 by_cases cc19 : x0 = (⟨#[]⟩)
 ·rw [if_pos cc19] at H
  refine gn rfl rfl rfl (deT cc19) <| gn rfl rfl rfl (deT cc19) <| u rfl (x_pickTV (v := .bool true) rfl (deT cc19) rfl) <| mv (.bool true) rfl <| gn rfl rfl rfl rfl <| gn rfl rfl rfl rfl <| gn rfl rfl rfl rfl <| gn rfl rfl rfl rfl <| u rfl (x_pickTV (v := .bool true) rfl rfl rfl) <| cT rfl rfl <| sr <| mv (.int .i64 0) rfl <| mv (.bool false) rfl <| rt ?_
  obtain rfl := si H
  exact ⟨_, ⟨_, rfl, ⟨_, rfl, rfl⟩⟩, ⟨rfl, (S.weaken hI)⟩⟩
 rw [if_neg cc19] at H
 refine gu rfl rfl rfl (deF cc19) (x_movV (v := .int .i64 n10) rfl) <| gu rfl rfl rfl (deF cc19) (x_bin rfl rfl rfl) <| u rfl (x_pickFV (v := .bool (decide (n10 > 4294967295))) rfl (deF cc19) rfl) <| mv (.bool (decide (n10 > 4294967295))) rfl ?_
 by_cases cc20 : n10 > 4294967295
 ·rw [if_pos cc20] at H
  refine gn rfl rfl rfl (deT cc20) <| gn rfl rfl rfl (deT cc20) <| gn rfl rfl rfl (deT cc20) <| gn rfl rfl rfl (deT cc20) <| u rfl (x_pickTV (v := .bool true) rfl (deT cc20) rfl) <| cT rfl rfl <| sq <| FW.anew [] trivial fun σ => rg <| mv (.int .i64 0) rfl <| mv (.bool false) rfl <| rt ?_
  obtain rfl := si H
  exact ⟨_, ⟨_, rfl, ⟨_, rfl, rfl⟩⟩, ⟨rfl, (S.weaken hI)⟩⟩
 rw [if_neg cc20] at H
 refine gu rfl rfl rfl (deF cc20) (x_movV (v := .int .i64 n10) rfl) ?_
 obtain ⟨y21, hy22, H⟩ := obx H
 refine OK.gt rfl rfl rfl (deF cc20) (cl fb140 (@octet_Text.ok k n10 _ _ _ _ hG S hy22) rfl ?_)
 rintro _ w ⟨rfl, S⟩
 refine gu rfl rfl rfl (deF cc20) (x_movV (v := .string x0) rfl) <| gu rfl rfl rfl (deF cc20) (x_sne rfl rfl) <| u rfl (x_pickFV (v := .bool (!decide (y21 = x0))) rfl (deF cc20) rfl) ?_
 by_cases cc23 : y21 = x0
 ·rw [if_pos cc23] at H
  refine cF rfl (noF (deT cc23)) <| sk <| sq <| FW.anew [(4, .int .i64 n10)] ⟨rfl, trivial⟩ fun σ => rg <| mv (.int .i64 n10) rfl <| mv (.int .i64 n10) rfl <| mv (.bool true) rfl <| rt ?_
  obtain rfl := si H
  exact ⟨_, ⟨_, rfl, ⟨_, rfl, rfl⟩⟩, ⟨rfl, (S.weaken hI)⟩⟩
 rw [if_neg cc23] at H
 refine cT rfl (noT (deF cc23)) <| sq <| FW.anew [] trivial fun σ => rg <| mv (.int .i64 0) rfl <| mv (.bool false) rfl <| rt ?_
 obtain rfl := si H
 exact ⟨_, ⟨_, rfl, ⟨_, rfl, rfl⟩⟩, ⟨rfl, (S.weaken hI)⟩⟩
def regex_signs_1.f (k : Nat) (x0 : Int) (x1 : Int) (x2 : ByteArray) (x3 : (List T_sg)) : Option (Bool × Int × (List T_sg)) := (if x1 < 0 then (some (true, x1, x3)) else ((scutLR x2 x1 x0).bind fun s3 => ((octet_Int.f k s3).bind fun y4 => ((app 12 x3 [(T_sg.mk 0 (u32 y4.1) true)]).bind fun l10 => (some (y4.2, (-1), l10))))))
abbrev regex_signs_1.C (k : Nat) : Prop := ∀ {x0 : Int} {x1 : Int} {x2 : ByteArray} {x3 : (List T_sg)} {vx3 : Value} {bx1 : Nat} {bx2 : Nat} {bx3 : Nat} {F : List It} {I : IMem} {w : World} {r : Bool × Int × (List T_sg)}, Glob I → Own I w (.bk bx1 3 [.int .i64 x1] :: .bk bx2 9 [.string x2] :: .bk bx3 112 [vx3] :: .tv vx3 124 3 :: F) → SlR R_regex_sign I vx3 x3 → regex_signs_1.f k x0 x1 x2 x3 = some r →
    Calls Tryz.prog 112 #[.int .i64 x0, pt bx1, pt bx2, pt bx3] w fun e w' => ∃ v, e = .returned v ∧ ∃ (vy_2 : Value) (J : IMem), I.le J ∧ v = .bool r.1 ∧ SlR R_regex_sign J vy_2 r.2.2 ∧ Own J w' (.bk bx1 3 [.int .i64 r.2.1] :: .bk bx2 9 [.string x2] :: .bk bx3 112 [vy_2] :: .tv vy_2 124 3 :: F)
theorem regex_signs_1.ok (k : Nat) : regex_signs_1.C k := by
 intro x0 x1 x2 x3 vx3 bx1 bx2 bx3 F I w r hG S hx3 H
 have hI := ilr I
 rw [regex_signs_1.f] at H
 refine Calls.ofFW (args := [.int .i64 x0, pt bx1, pt bx2, pt bx3]) Tryz.func112 rfl rfl <| sr <| mv (.bool false) rfl <| sq <| sr <| u rfl (x_ld tsc3 rfl (S.load 0 rfl 0 rfl)) <| u rfl (x_bin rfl rfl rfl) ?_
 by_cases cc1 : x1 < 0
 ·rw [if_pos cc1] at H
  refine cT rfl (deT cc1) <| sr <| mv (.bool true) rfl <| rt ?_
  obtain rfl := si H
  exact ⟨_, ⟨_, rfl, rfl⟩, ⟨vx3, I, hI, rfl, hx3, S⟩⟩
 rw [if_neg cc1] at H
 refine cF rfl (deF cc1) <| sk <| sr <| u rfl (x_ld tsc9 rfl (S.load 1 rfl 0 rfl)) <| u rfl (x_ld tsc3 rfl (S.load 0 rfl 0 rfl)) <| mv (.int .i64 x0) rfl ?_
 obtain ⟨s3, h2, H⟩ := obx H
 refine g rfl (o_scutLR tstr9 rfl rfl rfl h2 ?_)
 obtain ⟨y4, hy5, H⟩ := obx H
 refine g rfl (cl fb113 (@octet_Int.ok k s3 _ _ _ _ hG S hy5) rfl ?_)
 rintro _ w ⟨rfl, S⟩
 refine mv (.tuple #[.int .i64 y4.1, .bool y4.2]) rfl <| u rfl (x_ext rfl rfl) <| u rfl (x_ext rfl rfl) <| mv (.int .i64 y4.1) rfl <| mv (.bool y4.2) rfl <| sq <| FW.anew [(1, pt bx1), (3, pt bx3), (6, .int .i64 y4.1), (7, .bool y4.2)] ⟨rfl, rfl, rfl, rfl, trivial⟩ fun σ => rg <| u rfl (x_ld tsc112 rfl (S.load 2 rfl 0 rfl)) <| mv (.int .i64 y4.1) rfl <| u rfl (x_conv tint23 tint_3 rfl) <| u rfl (x_bld tz124 tpl124 rfl (.one rfl (.one rfl PC.nil)) rfl) <| g rfl (o_bsl tsl112 tz124 rfl rfl rfl rfl (.agg PC.nil) rfl S fun b6 w S => ?_)
 obtain ⟨J7, hJ9, S, h8⟩ := S.freeze (r := R_regex_sign) (l := [(T_sg.mk 0 (u32 y4.1) true)]) 0 rfl ⟨[.int .i32 0, .int .u32 (u32 y4.1), .bool true], _, rfl, rfl, rfl⟩ rfl rfl
 have hx3 := hx3.mono hJ9
 have hI := hI.trans hJ9
 obtain ⟨l10, h12, H⟩ := obx H
 refine g rfl (o_appD (r := R_regex_sign) tsl112 rfl tz124 rfl rfl S 4 rfl rfl hx3 h8 h12 fun v11 w J14 hJ15 S h13 => ?_)
 have hI := hI.trans hJ15
 refine g rfl (o_st tone112 S 3 rfl rfl rfl h13.one fun w S => sq (FW.anew [(1, pt bx1), (7, .bool y4.2)] ⟨rfl, rfl, trivial⟩ fun σ => rg (g rfl (o_st tone3 S 1 rfl rfl rfl rfl fun w S => sq (rg (mv (.bool y4.2) rfl (mv (.bool y4.2) rfl (rt ?_))))))))
 obtain rfl := si H
 exact ⟨_, ⟨_, rfl, rfl⟩, ⟨v11, J14, hI, rfl, h13, (S.sel 5 [1, 2, 3, 4] rfl)⟩⟩
end Go.Proofs.YtafnenafbognkaaGreatDoor
namespace Go.Proofs.YtafnenafbognkaaGreatDoor
open Sp
set_option maxRecDepth 100000
set_option maxHeartbeats 4000000
def regex_signs.l0 : Nat → ByteArray → Nat → Int → (List T_sg) → Option (Sum ((List T_sg) × Bool) (Nat × Int × (List T_sg)))
  | 0, _, _, _, _ => none
  | k + 1, x0, p7, n8, l9 => (if p7 < x0.size then (if (runeAt x0 p7) ≥ 48 then (if (runeAt x0 p7) ≤ 57 then ((if n8 < 0 then (some ((p7 : Nat) : Int)) else (some n8)).bind fun n28 => (regex_signs.l0 k x0 (p7 + runeW x0 p7) n28 l9)) else ((regex_signs_1.f k ((p7 : Nat) : Int) n8 x0 l9).bind fun y33 => (if y33.1 = true then ((if (runeAt x0 p7) = 32 then (some ((runeAt x0 p7) == 32)) else (some ((runeAt x0 p7) == 95))).bind fun b39 => (if b39 = true then ((app 12 y33.2.2 [(T_sg.mk 32 0 false)]).bind fun l49 => (regex_signs.l0 k x0 (p7 + runeW x0 p7) y33.2.1 l49)) else (if (runeAt x0 p7) = 124 then ((app 12 y33.2.2 [(T_sg.mk (runeAt x0 p7) 0 false)]).bind fun l60 => (regex_signs.l0 k x0 (p7 + runeW x0 p7) y33.2.1 l60)) else (if (runeAt x0 p7) = 40 then ((app 12 y33.2.2 [(T_sg.mk (runeAt x0 p7) 0 false)]).bind fun l71 => (regex_signs.l0 k x0 (p7 + runeW x0 p7) y33.2.1 l71)) else (if (runeAt x0 p7) = 41 then ((app 12 y33.2.2 [(T_sg.mk (runeAt x0 p7) 0 false)]).bind fun l82 => (regex_signs.l0 k x0 (p7 + runeW x0 p7) y33.2.1 l82)) else (if (runeAt x0 p7) = 91 then ((app 12 y33.2.2 [(T_sg.mk (runeAt x0 p7) 0 false)]).bind fun l93 => (regex_signs.l0 k x0 (p7 + runeW x0 p7) y33.2.1 l93)) else (if (runeAt x0 p7) = 93 then ((app 12 y33.2.2 [(T_sg.mk (runeAt x0 p7) 0 false)]).bind fun l104 => (regex_signs.l0 k x0 (p7 + runeW x0 p7) y33.2.1 l104)) else (if (runeAt x0 p7) = 94 then ((app 12 y33.2.2 [(T_sg.mk (runeAt x0 p7) 0 false)]).bind fun l115 => (regex_signs.l0 k x0 (p7 + runeW x0 p7) y33.2.1 l115)) else (if (runeAt x0 p7) = 36 then ((app 12 y33.2.2 [(T_sg.mk (runeAt x0 p7) 0 false)]).bind fun l126 => (regex_signs.l0 k x0 (p7 + runeW x0 p7) y33.2.1 l126)) else (if (runeAt x0 p7) = 46 then ((app 12 y33.2.2 [(T_sg.mk (runeAt x0 p7) 0 false)]).bind fun l137 => (regex_signs.l0 k x0 (p7 + runeW x0 p7) y33.2.1 l137)) else (if (runeAt x0 p7) = 42 then ((app 12 y33.2.2 [(T_sg.mk (runeAt x0 p7) 0 false)]).bind fun l148 => (regex_signs.l0 k x0 (p7 + runeW x0 p7) y33.2.1 l148)) else (if (runeAt x0 p7) = 43 then ((app 12 y33.2.2 [(T_sg.mk (runeAt x0 p7) 0 false)]).bind fun l159 => (regex_signs.l0 k x0 (p7 + runeW x0 p7) y33.2.1 l159)) else (if (runeAt x0 p7) = 63 then ((app 12 y33.2.2 [(T_sg.mk (runeAt x0 p7) 0 false)]).bind fun l170 => (regex_signs.l0 k x0 (p7 + runeW x0 p7) y33.2.1 l170)) else (if (runeAt x0 p7) = 45 then ((app 12 y33.2.2 [(T_sg.mk (runeAt x0 p7) 0 false)]).bind fun l181 => (regex_signs.l0 k x0 (p7 + runeW x0 p7) y33.2.1 l181)) else (if (runeAt x0 p7) = 44 then ((app 12 y33.2.2 [(T_sg.mk (runeAt x0 p7) 0 false)]).bind fun l192 => (regex_signs.l0 k x0 (p7 + runeW x0 p7) y33.2.1 l192)) else (some (.inl ([], false)))))))))))))))))) else (some (.inl ([], false)))))) else ((regex_signs_1.f k ((p7 : Nat) : Int) n8 x0 l9).bind fun y200 => (if y200.1 = true then ((if (runeAt x0 p7) = 32 then (some ((runeAt x0 p7) == 32)) else (some ((runeAt x0 p7) == 95))).bind fun b206 => (if b206 = true then ((app 12 y200.2.2 [(T_sg.mk 32 0 false)]).bind fun l216 => (regex_signs.l0 k x0 (p7 + runeW x0 p7) y200.2.1 l216)) else (if (runeAt x0 p7) = 124 then ((app 12 y200.2.2 [(T_sg.mk (runeAt x0 p7) 0 false)]).bind fun l227 => (regex_signs.l0 k x0 (p7 + runeW x0 p7) y200.2.1 l227)) else (if (runeAt x0 p7) = 40 then ((app 12 y200.2.2 [(T_sg.mk (runeAt x0 p7) 0 false)]).bind fun l238 => (regex_signs.l0 k x0 (p7 + runeW x0 p7) y200.2.1 l238)) else (if (runeAt x0 p7) = 41 then ((app 12 y200.2.2 [(T_sg.mk (runeAt x0 p7) 0 false)]).bind fun l249 => (regex_signs.l0 k x0 (p7 + runeW x0 p7) y200.2.1 l249)) else (if (runeAt x0 p7) = 91 then ((app 12 y200.2.2 [(T_sg.mk (runeAt x0 p7) 0 false)]).bind fun l260 => (regex_signs.l0 k x0 (p7 + runeW x0 p7) y200.2.1 l260)) else (if (runeAt x0 p7) = 93 then ((app 12 y200.2.2 [(T_sg.mk (runeAt x0 p7) 0 false)]).bind fun l271 => (regex_signs.l0 k x0 (p7 + runeW x0 p7) y200.2.1 l271)) else (if (runeAt x0 p7) = 94 then ((app 12 y200.2.2 [(T_sg.mk (runeAt x0 p7) 0 false)]).bind fun l282 => (regex_signs.l0 k x0 (p7 + runeW x0 p7) y200.2.1 l282)) else (if (runeAt x0 p7) = 36 then ((app 12 y200.2.2 [(T_sg.mk (runeAt x0 p7) 0 false)]).bind fun l293 => (regex_signs.l0 k x0 (p7 + runeW x0 p7) y200.2.1 l293)) else (if (runeAt x0 p7) = 46 then ((app 12 y200.2.2 [(T_sg.mk (runeAt x0 p7) 0 false)]).bind fun l304 => (regex_signs.l0 k x0 (p7 + runeW x0 p7) y200.2.1 l304)) else (if (runeAt x0 p7) = 42 then ((app 12 y200.2.2 [(T_sg.mk (runeAt x0 p7) 0 false)]).bind fun l315 => (regex_signs.l0 k x0 (p7 + runeW x0 p7) y200.2.1 l315)) else (if (runeAt x0 p7) = 43 then ((app 12 y200.2.2 [(T_sg.mk (runeAt x0 p7) 0 false)]).bind fun l326 => (regex_signs.l0 k x0 (p7 + runeW x0 p7) y200.2.1 l326)) else (if (runeAt x0 p7) = 63 then ((app 12 y200.2.2 [(T_sg.mk (runeAt x0 p7) 0 false)]).bind fun l337 => (regex_signs.l0 k x0 (p7 + runeW x0 p7) y200.2.1 l337)) else (if (runeAt x0 p7) = 45 then ((app 12 y200.2.2 [(T_sg.mk (runeAt x0 p7) 0 false)]).bind fun l348 => (regex_signs.l0 k x0 (p7 + runeW x0 p7) y200.2.1 l348)) else (if (runeAt x0 p7) = 44 then ((app 12 y200.2.2 [(T_sg.mk (runeAt x0 p7) 0 false)]).bind fun l359 => (regex_signs.l0 k x0 (p7 + runeW x0 p7) y200.2.1 l359)) else (some (.inl ([], false)))))))))))))))))) else (some (.inl ([], false)))))) else (some (.inr (p7, n8, l9))))
def regex_signs.f (k : Nat) (x0 : ByteArray) : Option ((List T_sg) × Bool) := (((regex_signs.l0 k x0 0 (-1) []) : Option (Sum ((List T_sg) × Bool) (Nat × Int × (List T_sg)))).bind fun o => match o with | .inl r => some r | .inr (p18, n19, l20) => ((regex_signs_1.f k (x0.size : Int) n19 x0 l20).bind fun y367 => (some (y367.2.2, y367.1))))
abbrev regex_signs.C (k : Nat) : Prop := ∀ {x0 : ByteArray} {F : List It} {I : IMem} {w : World} {r : (List T_sg) × Bool}, Glob I → Own I w (F) → regex_signs.f k x0 = some r →
    Calls Tryz.prog 81 #[.string x0] w fun e w' => ∃ v, e = .returned v ∧ ∃ (vy_0 : Value) (J : IMem), I.le J ∧ v = .tuple #[vy_0, .bool r.2] ∧ SlR R_regex_sign J vy_0 r.1 ∧ Own J w' (.tv vy_0 124 3 :: F)
theorem regex_signs.ok (k : Nat) : regex_signs.C k := by
 intro x0 F I w r hG S H
 have hI := ilr I
 rw [regex_signs.f] at H
 refine Calls.ofFW (args := [.string x0]) Tryz.func81 rfl rfl <| sr <| g rfl (o_box rfl S fun b1 w S => mv ((.slice none 0 0)) rfl (mv (.bool false) rfl (sq (rg (g rfl (o_all tz112 S fun b2 w S => sq (rg (g rfl (o_all tz3 S fun b3 w S => g rfl (o_st tone3 S 0 rfl rfl rfl rfl fun w S => sq (rg (u rfl (x_mkfL (l := [pt b3, pt b1, pt b2]) rfl) (mv (.func (.func 112) #[] #[pt b3, pt b1, pt b2]) rfl (sq (sq (FW.anew [(1, pt b1), (4, pt b2), (5, pt b3), (6, .func (.func 112) #[] #[pt b3, pt b1, pt b2])] ⟨rfl, rfl, rfl, rfl, trivial⟩ fun σ => rg (u rfl (x_ld tsc9 rfl (S.load 2 rfl 0 rfl)) (g rfl (o_rng tstr9 rfl S fun b4 w S => bk ?_)))))))))))))))))))
 have S := S.nil_tv 124 3
 obtain ⟨o14, hl16, HO15⟩ := obx H
 refine FW.cutX 0 (fun σ w => ∃ (p18 : Nat) (n19 : Int) (l20 : (List T_sg)) (v21 : Value) (J17 : IMem), (.inr (p18, n19, l20)) = o14 ∧ Has σ [(1, pt b1), (4, pt b2), (6, .func (.func 112) #[] #[pt b3, pt b1, pt b2])] ∧ I.le J17 ∧ Own J17 w (.tv v21 124 3 :: .ob b4 (.stringIter x0 p18) :: .bk b3 3 [.int .i64 n19] :: .bk b2 112 [v21] :: .bk b1 9 [.string x0] :: F) ∧ SlR R_regex_sign J17 v21 l20) ?_ ?_
 ·refine FW.loop k (FL.ind (fun q σ w => ∃ (p7 : Nat) (n8 : Int) (l9 : (List T_sg)) (v10 : Value) (J6 : IMem), regex_signs.l0 q x0 p7 n8 l9 = some o14 ∧ q ≤ k ∧ Has σ [(1, pt b1), (4, pt b2), (5, pt b3), (6, .func (.func 112) #[] #[pt b3, pt b1, pt b2]), (13, pt b4)] ∧ I.le J6 ∧ Own J6 w (.tv v10 124 3 :: .ob b4 (.stringIter x0 p7) :: .bk b3 3 [.int .i64 n8] :: .bk b2 112 [v10] :: .bk b1 9 [.string x0] :: F) ∧ SlR R_regex_sign J6 v10 l9) ?_ ?_ k k _ _ (Nat.le_refl _) ⟨0, (-1), [], (.slice none 0 0), I, hl16, Nat.le_refl _, ⟨rfl, rfl, rfl, rfl, rfl, trivial⟩, (ilr _), S, (SlR.nil _ _)⟩)
  ·rintro σ w ⟨p7, n8, l9, v10, J6, H, _⟩; cases H
  rintro q12 σ w ⟨p7, n8, l9, v10, J6, H, hq23, hσ, hL13, S, h11⟩
  have hI := hI.trans hL13
  have hG := hG.mono hL13
  rw [hσ.eq]
  rw [regex_signs.l0] at H
  refine sq <| rg ?_
  by_cases cc24 : p7 < x0.size
  ·rw [if_pos cc24] at H
   refine g rfl (o_nxtT S 1 rfl rfl cc24 fun w S => u rfl (x_ext rfl rfl) (sq (cT rfl rfl (sk (bk (sq (rg (u rfl (x_ext rfl rfl) (u rfl (x_ext rfl rfl) (mv (.int .i64 ((p7 : Nat) : Int)) rfl (mv (.int .i32 (runeAt x0 p7)) rfl (sq (sq (rg (mv (.int .i32 (runeAt x0 p7)) rfl (u rfl (x_bin rfl rfl rfl) (mv (.bool (decide ((runeAt x0 p7) ≥ 48))) rfl ?_)))))))))))))))))
   by_cases cc25 : (runeAt x0 p7) ≥ 48
   ·rw [if_pos cc25] at H
    refine gu rfl rfl rfl (deT cc25) (x_movV (v := .int .i32 (runeAt x0 p7)) rfl) <| gu rfl rfl rfl (deT cc25) (x_bin rfl rfl rfl) <| u rfl (x_pickTV (v := .bool (decide ((runeAt x0 p7) ≤ 57))) rfl (deT cc25) rfl) ?_
    by_cases cc26 : (runeAt x0 p7) ≤ 57
    ·rw [if_pos cc26] at H
     refine cT rfl (deT cc26) <| sq <| sq <| FW.anew [(1, pt b1), (4, pt b2), (5, pt b3), (6, .func (.func 112) #[] #[pt b3, pt b1, pt b2]), (7, .int .i64 ((p7 : Nat) : Int)), (13, pt b4)] ⟨rfl, rfl, rfl, rfl, rfl, rfl, trivial⟩ fun σ => rg <| u rfl (x_ld tsc3 rfl (S.load 2 rfl 0 rfl)) <| u rfl (x_bin rfl rfl rfl) ?_
     obtain ⟨o29, H, HO30⟩ := obx H
     have hL31 := ilr J6
     refine FW.cutN (fun σ w => ∃ (n28 : Int) (J27 : IMem), n28 = o29 ∧ Has σ [(1, pt b1), (4, pt b2), (5, pt b3), (6, .func (.func 112) #[] #[pt b3, pt b1, pt b2]), (13, pt b4)] ∧ J6.le J27 ∧ Own J27 w (.tv v10 124 3 :: .ob b4 (.stringIter x0 (p7 + runeW x0 p7)) :: .bk b3 3 [.int .i64 n28] :: .bk b2 112 [v10] :: .bk b1 9 [.string x0] :: F)) ?_ ?_
     ·by_cases cc32 : n8 < 0
      ·rw [if_pos cc32] at H
       refine cT rfl (deT cc32) <| rg <| mv (.int .i64 ((p7 : Nat) : Int)) rfl <| g rfl (o_st tone3 S 2 rfl rfl rfl rfl fun w S => ⟨((p7 : Nat) : Int), J6, (si H), ⟨rfl, rfl, rfl, rfl, rfl, trivial⟩, hL31, S⟩)
      rw [if_neg cc32] at H
      refine cF rfl (deF cc32) <| sk ⟨n8, J6, (si H), ⟨rfl, rfl, rfl, rfl, rfl, trivial⟩, hL31, S⟩
     rintro σ w ⟨n28, J27, ho, hσ, hL31, S⟩
     subst ho
     have H := HO30
     have h11 := h11.mono hL31
     have hL13 := hL13.trans hL31
     rw [hσ.eq]
     refine ex ⟨q12, Nat.le_refl _, (p7 + runeW x0 p7), n28, l9, v10, J27, H, (Nat.le_of_succ_le hq23), ⟨rfl, rfl, rfl, rfl, rfl, trivial⟩, hL13, S, h11⟩
    rw [if_neg cc26] at H
    refine cF rfl (deF cc26) <| sk <| sq <| sq <| FW.anew [(1, pt b1), (4, pt b2), (5, pt b3), (6, .func (.func 112) #[] #[pt b3, pt b1, pt b2]), (7, .int .i64 ((p7 : Nat) : Int)), (8, .int .i32 (runeAt x0 p7)), (13, pt b4)] ⟨rfl, rfl, rfl, rfl, rfl, rfl, rfl, trivial⟩ fun σ => rg <| mv (.func (.func 112) #[] #[pt b3, pt b1, pt b2]) rfl <| mv (.int .i64 ((p7 : Nat) : Int)) rfl ?_
    obtain ⟨y33, hy34, H⟩ := obx H
    refine g rfl (clv rfl fb112 (@regex_signs_1.ok q12 ((p7 : Nat) : Int) n8 x0 l9 _ _ _ _ _ _ _ _ hG (S.sel 5 [2, 4, 3, 0, 1] rfl) h11 hy34) rfl ?_)
    rintro _ w ⟨vy33_2, J35, hJ36, rfl, hy33_2, S⟩
    have hI := hI.trans hJ36
    have hL13 := hL13.trans hJ36
    refine u rfl (x_not' rfl) ?_
    by_cases cc37 : y33.1 = true
    ·rw [if_pos cc37] at H
     refine cF rfl (noF cc37) <| sk <| sr <| mv (.int .i32 (runeAt x0 p7)) rfl <| bk <| sq <| sr <| u rfl (x_bin rfl rfl rfl) <| mv (.bool ((runeAt x0 p7) == 32)) rfl ?_
     obtain ⟨o40, H, HO41⟩ := obx H
     have hL42 := ilr J35
     refine FW.cutN (fun σ w => ∃ (b39 : Bool) (J38 : IMem), b39 = o40 ∧ Has σ [(1, pt b1), (4, pt b2), (5, pt b3), (6, .func (.func 112) #[] #[pt b3, pt b1, pt b2]), (8, .int .i32 (runeAt x0 p7)), (13, pt b4), (31, .int .i32 (runeAt x0 p7)), (32, .bool b39)] ∧ J35.le J38 ∧ Own J38 w (.bk b3 3 [.int .i64 y33.2.1] :: .bk b1 9 [.string x0] :: .bk b2 112 [vy33_2] :: .tv vy33_2 124 3 :: .ob b4 (.stringIter x0 (p7 + runeW x0 p7)) :: F)) ?_ ?_
     ·by_cases cc43 : (runeAt x0 p7) = 32
      ·rw [if_pos cc43] at H
       refine cT rfl (eqT cc43) <| sk ⟨((runeAt x0 p7) == 32), J35, (si H), ⟨rfl, rfl, rfl, rfl, rfl, rfl, rfl, rfl, trivial⟩, hL42, S⟩
      rw [if_neg cc43] at H
      refine cF rfl (eqF cc43) <| FW.anew [(1, pt b1), (4, pt b2), (5, pt b3), (6, .func (.func 112) #[] #[pt b3, pt b1, pt b2]), (8, .int .i32 (runeAt x0 p7)), (13, pt b4), (31, .int .i32 (runeAt x0 p7))] ⟨rfl, rfl, rfl, rfl, rfl, rfl, rfl, trivial⟩ fun σ => rg <| u rfl (x_bin rfl rfl rfl) <| mv (.bool ((runeAt x0 p7) == 95)) rfl ⟨((runeAt x0 p7) == 95), J35, (si H), ⟨rfl, rfl, rfl, rfl, rfl, rfl, rfl, rfl, trivial⟩, hL42, S⟩
     rintro σ w ⟨b39, J38, ho, hσ, hL42, S⟩
     subst ho
     have H := HO41
     have hy33_2 := hy33_2.mono hL42
     have hI := hI.trans hL42
     have hL13 := hL13.trans hL42
     rw [hσ.eq]
     by_cases cc44 : b39 = true
     ·rw [if_pos cc44] at H
      refine cT rfl cc44 <| rg <| u rfl (x_ld tsc112 rfl (S.load 2 rfl 0 rfl)) <| u rfl (x_bld tz124 tpl124 rfl (.one rfl PC.nil) rfl) <| g rfl (o_bsl tsl112 tz124 rfl rfl rfl rfl (.agg PC.nil) rfl S fun b45 w S => ?_)
      obtain ⟨J46, hJ48, S, h47⟩ := S.freeze (r := R_regex_sign) (l := [(T_sg.mk 32 0 false)]) 0 rfl ⟨[.int .i32 32, .int .u32 0, .bool false], _, rfl, rfl, rfl⟩ rfl rfl
      have hy33_2 := hy33_2.mono hJ48
      have hL13 := hL13.trans hJ48
      obtain ⟨l49, h51, H⟩ := obx H
      refine g rfl (o_appD (r := R_regex_sign) tsl112 rfl tz124 rfl rfl S 4 rfl rfl hy33_2 h47 h51 fun v50 w J53 hJ54 S h52 => ?_)
      have hL13 := hL13.trans hJ54
      refine g rfl (o_st tone112 S 3 rfl rfl rfl h52.one fun w S => ⟨q12, Nat.le_refl _, (p7 + runeW x0 p7), y33.2.1, l49, v50, J53, H, (Nat.le_of_succ_le hq23), ⟨rfl, rfl, rfl, rfl, rfl, trivial⟩, hL13, (S.sel 6 [4, 5, 1, 3, 2] rfl), h52⟩)
     rw [if_neg cc44] at H
     refine cF rfl (vaF cc44) <| sq <| sr <| u rfl (x_bin rfl rfl rfl) <| mv (.bool ((runeAt x0 p7) == 124)) rfl ?_
     by_cases cc55 : (runeAt x0 p7) = 124
     ·rw [if_pos cc55] at H
      refine cT rfl (eqT cc55) <| sk <| cT rfl (eqT cc55) <| rg <| u rfl (x_ld tsc112 rfl (S.load 2 rfl 0 rfl)) <| mv (.int .i32 (runeAt x0 p7)) rfl <| u rfl (x_bld tz124 tpl124 rfl (.one rfl PC.nil) rfl) <| g rfl (o_bsl tsl112 tz124 rfl rfl rfl rfl (.agg PC.nil) rfl S fun b56 w S => ?_)
      obtain ⟨J57, hJ59, S, h58⟩ := S.freeze (r := R_regex_sign) (l := [(T_sg.mk (runeAt x0 p7) 0 false)]) 0 rfl ⟨[.int .i32 (runeAt x0 p7), .int .u32 0, .bool false], _, rfl, rfl, rfl⟩ rfl rfl
      have hy33_2 := hy33_2.mono hJ59
      have hL13 := hL13.trans hJ59
      obtain ⟨l60, h62, H⟩ := obx H
      refine g rfl (o_appD (r := R_regex_sign) tsl112 rfl tz124 rfl rfl S 4 rfl rfl hy33_2 h58 h62 fun v61 w J64 hJ65 S h63 => ?_)
      have hL13 := hL13.trans hJ65
      refine g rfl (o_st tone112 S 3 rfl rfl rfl h63.one fun w S => ⟨q12, Nat.le_refl _, (p7 + runeW x0 p7), y33.2.1, l60, v61, J64, H, (Nat.le_of_succ_le hq23), ⟨rfl, rfl, rfl, rfl, rfl, trivial⟩, hL13, (S.sel 6 [4, 5, 1, 3, 2] rfl), h63⟩)
     rw [if_neg cc55] at H
     refine cF rfl (eqF cc55) <| sr <| u rfl (x_bin rfl rfl rfl) <| mv (.bool ((runeAt x0 p7) == 40)) rfl ?_
     by_cases cc66 : (runeAt x0 p7) = 40
     ·rw [if_pos cc66] at H
      refine cT rfl (eqT cc66) <| sk <| cT rfl (eqT cc66) <| rg <| u rfl (x_ld tsc112 rfl (S.load 2 rfl 0 rfl)) <| mv (.int .i32 (runeAt x0 p7)) rfl <| u rfl (x_bld tz124 tpl124 rfl (.one rfl PC.nil) rfl) <| g rfl (o_bsl tsl112 tz124 rfl rfl rfl rfl (.agg PC.nil) rfl S fun b67 w S => ?_)
      obtain ⟨J68, hJ70, S, h69⟩ := S.freeze (r := R_regex_sign) (l := [(T_sg.mk (runeAt x0 p7) 0 false)]) 0 rfl ⟨[.int .i32 (runeAt x0 p7), .int .u32 0, .bool false], _, rfl, rfl, rfl⟩ rfl rfl
      have hy33_2 := hy33_2.mono hJ70
      have hL13 := hL13.trans hJ70
      obtain ⟨l71, h73, H⟩ := obx H
      refine g rfl (o_appD (r := R_regex_sign) tsl112 rfl tz124 rfl rfl S 4 rfl rfl hy33_2 h69 h73 fun v72 w J75 hJ76 S h74 => ?_)
      have hL13 := hL13.trans hJ76
      refine g rfl (o_st tone112 S 3 rfl rfl rfl h74.one fun w S => ⟨q12, Nat.le_refl _, (p7 + runeW x0 p7), y33.2.1, l71, v72, J75, H, (Nat.le_of_succ_le hq23), ⟨rfl, rfl, rfl, rfl, rfl, trivial⟩, hL13, (S.sel 6 [4, 5, 1, 3, 2] rfl), h74⟩)
     rw [if_neg cc66] at H
     refine cF rfl (eqF cc66) <| sr <| u rfl (x_bin rfl rfl rfl) <| mv (.bool ((runeAt x0 p7) == 41)) rfl ?_
     by_cases cc77 : (runeAt x0 p7) = 41
     ·rw [if_pos cc77] at H
      refine cT rfl (eqT cc77) <| sk <| cT rfl (eqT cc77) <| rg <| u rfl (x_ld tsc112 rfl (S.load 2 rfl 0 rfl)) <| mv (.int .i32 (runeAt x0 p7)) rfl <| u rfl (x_bld tz124 tpl124 rfl (.one rfl PC.nil) rfl) <| g rfl (o_bsl tsl112 tz124 rfl rfl rfl rfl (.agg PC.nil) rfl S fun b78 w S => ?_)
      obtain ⟨J79, hJ81, S, h80⟩ := S.freeze (r := R_regex_sign) (l := [(T_sg.mk (runeAt x0 p7) 0 false)]) 0 rfl ⟨[.int .i32 (runeAt x0 p7), .int .u32 0, .bool false], _, rfl, rfl, rfl⟩ rfl rfl
      have hy33_2 := hy33_2.mono hJ81
      have hL13 := hL13.trans hJ81
      obtain ⟨l82, h84, H⟩ := obx H
      refine g rfl (o_appD (r := R_regex_sign) tsl112 rfl tz124 rfl rfl S 4 rfl rfl hy33_2 h80 h84 fun v83 w J86 hJ87 S h85 => ?_)
      have hL13 := hL13.trans hJ87
      refine g rfl (o_st tone112 S 3 rfl rfl rfl h85.one fun w S => ⟨q12, Nat.le_refl _, (p7 + runeW x0 p7), y33.2.1, l82, v83, J86, H, (Nat.le_of_succ_le hq23), ⟨rfl, rfl, rfl, rfl, rfl, trivial⟩, hL13, (S.sel 6 [4, 5, 1, 3, 2] rfl), h85⟩)
     rw [if_neg cc77] at H
     refine cF rfl (eqF cc77) <| sr <| u rfl (x_bin rfl rfl rfl) <| mv (.bool ((runeAt x0 p7) == 91)) rfl ?_
     by_cases cc88 : (runeAt x0 p7) = 91
     ·rw [if_pos cc88] at H
      refine cT rfl (eqT cc88) <| sk <| cT rfl (eqT cc88) <| FW.anew [(1, pt b1), (4, pt b2), (5, pt b3), (6, .func (.func 112) #[] #[pt b3, pt b1, pt b2]), (8, .int .i32 (runeAt x0 p7)), (13, pt b4)] ⟨rfl, rfl, rfl, rfl, rfl, rfl, trivial⟩ fun σ => rg <| u rfl (x_ld tsc112 rfl (S.load 2 rfl 0 rfl)) <| mv (.int .i32 (runeAt x0 p7)) rfl <| u rfl (x_bld tz124 tpl124 rfl (.one rfl PC.nil) rfl) <| g rfl (o_bsl tsl112 tz124 rfl rfl rfl rfl (.agg PC.nil) rfl S fun b89 w S => ?_)
      obtain ⟨J90, hJ92, S, h91⟩ := S.freeze (r := R_regex_sign) (l := [(T_sg.mk (runeAt x0 p7) 0 false)]) 0 rfl ⟨[.int .i32 (runeAt x0 p7), .int .u32 0, .bool false], _, rfl, rfl, rfl⟩ rfl rfl
      have hy33_2 := hy33_2.mono hJ92
      have hL13 := hL13.trans hJ92
      obtain ⟨l93, h95, H⟩ := obx H
      refine g rfl (o_appD (r := R_regex_sign) tsl112 rfl tz124 rfl rfl S 4 rfl rfl hy33_2 h91 h95 fun v94 w J97 hJ98 S h96 => ?_)
      have hL13 := hL13.trans hJ98
      refine g rfl (o_st tone112 S 3 rfl rfl rfl h96.one fun w S => ⟨q12, Nat.le_refl _, (p7 + runeW x0 p7), y33.2.1, l93, v94, J97, H, (Nat.le_of_succ_le hq23), ⟨rfl, rfl, rfl, rfl, rfl, trivial⟩, hL13, (S.sel 6 [4, 5, 1, 3, 2] rfl), h96⟩)
     rw [if_neg cc88] at H
     refine cF rfl (eqF cc88) <| sq <| FW.anew [(1, pt b1), (4, pt b2), (5, pt b3), (6, .func (.func 112) #[] #[pt b3, pt b1, pt b2]), (8, .int .i32 (runeAt x0 p7)), (13, pt b4), (31, .int .i32 (runeAt x0 p7))] ⟨rfl, rfl, rfl, rfl, rfl, rfl, rfl, trivial⟩ fun σ => rg <| u rfl (x_bin rfl rfl rfl) <| mv (.bool ((runeAt x0 p7) == 93)) rfl ?_
     by_cases cc99 : (runeAt x0 p7) = 93
     ·rw [if_pos cc99] at H
      refine cT rfl (eqT cc99) <| sk <| cT rfl (eqT cc99) <| rg <| u rfl (x_ld tsc112 rfl (S.load 2 rfl 0 rfl)) <| mv (.int .i32 (runeAt x0 p7)) rfl <| u rfl (x_bld tz124 tpl124 rfl (.one rfl PC.nil) rfl) <| g rfl (o_bsl tsl112 tz124 rfl rfl rfl rfl (.agg PC.nil) rfl S fun b100 w S => ?_)
      obtain ⟨J101, hJ103, S, h102⟩ := S.freeze (r := R_regex_sign) (l := [(T_sg.mk (runeAt x0 p7) 0 false)]) 0 rfl ⟨[.int .i32 (runeAt x0 p7), .int .u32 0, .bool false], _, rfl, rfl, rfl⟩ rfl rfl
      have hy33_2 := hy33_2.mono hJ103
      have hL13 := hL13.trans hJ103
      obtain ⟨l104, h106, H⟩ := obx H
      refine g rfl (o_appD (r := R_regex_sign) tsl112 rfl tz124 rfl rfl S 4 rfl rfl hy33_2 h102 h106 fun v105 w J108 hJ109 S h107 => ?_)
      have hL13 := hL13.trans hJ109
      refine g rfl (o_st tone112 S 3 rfl rfl rfl h107.one fun w S => ⟨q12, Nat.le_refl _, (p7 + runeW x0 p7), y33.2.1, l104, v105, J108, H, (Nat.le_of_succ_le hq23), ⟨rfl, rfl, rfl, rfl, rfl, trivial⟩, hL13, (S.sel 6 [4, 5, 1, 3, 2] rfl), h107⟩)
     rw [if_neg cc99] at H
     refine cF rfl (eqF cc99) <| sr <| u rfl (x_bin rfl rfl rfl) <| mv (.bool ((runeAt x0 p7) == 94)) rfl ?_
     by_cases cc110 : (runeAt x0 p7) = 94
     ·rw [if_pos cc110] at H
      refine cT rfl (eqT cc110) <| sk <| cT rfl (eqT cc110) <| rg <| u rfl (x_ld tsc112 rfl (S.load 2 rfl 0 rfl)) <| mv (.int .i32 (runeAt x0 p7)) rfl <| u rfl (x_bld tz124 tpl124 rfl (.one rfl PC.nil) rfl) <| g rfl (o_bsl tsl112 tz124 rfl rfl rfl rfl (.agg PC.nil) rfl S fun b111 w S => ?_)
      obtain ⟨J112, hJ114, S, h113⟩ := S.freeze (r := R_regex_sign) (l := [(T_sg.mk (runeAt x0 p7) 0 false)]) 0 rfl ⟨[.int .i32 (runeAt x0 p7), .int .u32 0, .bool false], _, rfl, rfl, rfl⟩ rfl rfl
      have hy33_2 := hy33_2.mono hJ114
      have hL13 := hL13.trans hJ114
      obtain ⟨l115, h117, H⟩ := obx H
      refine g rfl (o_appD (r := R_regex_sign) tsl112 rfl tz124 rfl rfl S 4 rfl rfl hy33_2 h113 h117 fun v116 w J119 hJ120 S h118 => ?_)
      have hL13 := hL13.trans hJ120
      refine g rfl (o_st tone112 S 3 rfl rfl rfl h118.one fun w S => ⟨q12, Nat.le_refl _, (p7 + runeW x0 p7), y33.2.1, l115, v116, J119, H, (Nat.le_of_succ_le hq23), ⟨rfl, rfl, rfl, rfl, rfl, trivial⟩, hL13, (S.sel 6 [4, 5, 1, 3, 2] rfl), h118⟩)
     rw [if_neg cc110] at H
     refine cF rfl (eqF cc110) <| sr <| u rfl (x_bin rfl rfl rfl) <| mv (.bool ((runeAt x0 p7) == 36)) rfl ?_
     by_cases cc121 : (runeAt x0 p7) = 36
     ·rw [if_pos cc121] at H
      refine cT rfl (eqT cc121) <| sk <| cT rfl (eqT cc121) <| rg <| u rfl (x_ld tsc112 rfl (S.load 2 rfl 0 rfl)) <| mv (.int .i32 (runeAt x0 p7)) rfl <| u rfl (x_bld tz124 tpl124 rfl (.one rfl PC.nil) rfl) <| g rfl (o_bsl tsl112 tz124 rfl rfl rfl rfl (.agg PC.nil) rfl S fun b122 w S => ?_)
      obtain ⟨J123, hJ125, S, h124⟩ := S.freeze (r := R_regex_sign) (l := [(T_sg.mk (runeAt x0 p7) 0 false)]) 0 rfl ⟨[.int .i32 (runeAt x0 p7), .int .u32 0, .bool false], _, rfl, rfl, rfl⟩ rfl rfl
      have hy33_2 := hy33_2.mono hJ125
      have hL13 := hL13.trans hJ125
      obtain ⟨l126, h128, H⟩ := obx H
      refine g rfl (o_appD (r := R_regex_sign) tsl112 rfl tz124 rfl rfl S 4 rfl rfl hy33_2 h124 h128 fun v127 w J130 hJ131 S h129 => ?_)
      have hL13 := hL13.trans hJ131
      refine g rfl (o_st tone112 S 3 rfl rfl rfl h129.one fun w S => ⟨q12, Nat.le_refl _, (p7 + runeW x0 p7), y33.2.1, l126, v127, J130, H, (Nat.le_of_succ_le hq23), ⟨rfl, rfl, rfl, rfl, rfl, trivial⟩, hL13, (S.sel 6 [4, 5, 1, 3, 2] rfl), h129⟩)
     rw [if_neg cc121] at H
     refine cF rfl (eqF cc121) <| sr <| u rfl (x_bin rfl rfl rfl) <| mv (.bool ((runeAt x0 p7) == 46)) rfl ?_
     by_cases cc132 : (runeAt x0 p7) = 46
     ·rw [if_pos cc132] at H
      refine cT rfl (eqT cc132) <| sk <| cT rfl (eqT cc132) <| FW.anew [(1, pt b1), (4, pt b2), (5, pt b3), (6, .func (.func 112) #[] #[pt b3, pt b1, pt b2]), (8, .int .i32 (runeAt x0 p7)), (13, pt b4)] ⟨rfl, rfl, rfl, rfl, rfl, rfl, trivial⟩ fun σ => rg <| u rfl (x_ld tsc112 rfl (S.load 2 rfl 0 rfl)) <| mv (.int .i32 (runeAt x0 p7)) rfl <| u rfl (x_bld tz124 tpl124 rfl (.one rfl PC.nil) rfl) <| g rfl (o_bsl tsl112 tz124 rfl rfl rfl rfl (.agg PC.nil) rfl S fun b133 w S => ?_)
      obtain ⟨J134, hJ136, S, h135⟩ := S.freeze (r := R_regex_sign) (l := [(T_sg.mk (runeAt x0 p7) 0 false)]) 0 rfl ⟨[.int .i32 (runeAt x0 p7), .int .u32 0, .bool false], _, rfl, rfl, rfl⟩ rfl rfl
      have hy33_2 := hy33_2.mono hJ136
      have hL13 := hL13.trans hJ136
      obtain ⟨l137, h139, H⟩ := obx H
      refine g rfl (o_appD (r := R_regex_sign) tsl112 rfl tz124 rfl rfl S 4 rfl rfl hy33_2 h135 h139 fun v138 w J141 hJ142 S h140 => ?_)
      have hL13 := hL13.trans hJ142
      refine g rfl (o_st tone112 S 3 rfl rfl rfl h140.one fun w S => ⟨q12, Nat.le_refl _, (p7 + runeW x0 p7), y33.2.1, l137, v138, J141, H, (Nat.le_of_succ_le hq23), ⟨rfl, rfl, rfl, rfl, rfl, trivial⟩, hL13, (S.sel 6 [4, 5, 1, 3, 2] rfl), h140⟩)
     rw [if_neg cc132] at H
     refine cF rfl (eqF cc132) <| sq <| FW.anew [(1, pt b1), (4, pt b2), (5, pt b3), (6, .func (.func 112) #[] #[pt b3, pt b1, pt b2]), (8, .int .i32 (runeAt x0 p7)), (13, pt b4), (31, .int .i32 (runeAt x0 p7))] ⟨rfl, rfl, rfl, rfl, rfl, rfl, rfl, trivial⟩ fun σ => rg <| u rfl (x_bin rfl rfl rfl) <| mv (.bool ((runeAt x0 p7) == 42)) rfl ?_
     by_cases cc143 : (runeAt x0 p7) = 42
     ·rw [if_pos cc143] at H
      refine cT rfl (eqT cc143) <| sk <| cT rfl (eqT cc143) <| rg <| u rfl (x_ld tsc112 rfl (S.load 2 rfl 0 rfl)) <| mv (.int .i32 (runeAt x0 p7)) rfl <| u rfl (x_bld tz124 tpl124 rfl (.one rfl PC.nil) rfl) <| g rfl (o_bsl tsl112 tz124 rfl rfl rfl rfl (.agg PC.nil) rfl S fun b144 w S => ?_)
      obtain ⟨J145, hJ147, S, h146⟩ := S.freeze (r := R_regex_sign) (l := [(T_sg.mk (runeAt x0 p7) 0 false)]) 0 rfl ⟨[.int .i32 (runeAt x0 p7), .int .u32 0, .bool false], _, rfl, rfl, rfl⟩ rfl rfl
      have hy33_2 := hy33_2.mono hJ147
      have hL13 := hL13.trans hJ147
      obtain ⟨l148, h150, H⟩ := obx H
      refine g rfl (o_appD (r := R_regex_sign) tsl112 rfl tz124 rfl rfl S 4 rfl rfl hy33_2 h146 h150 fun v149 w J152 hJ153 S h151 => ?_)
      have hL13 := hL13.trans hJ153
      refine g rfl (o_st tone112 S 3 rfl rfl rfl h151.one fun w S => ⟨q12, Nat.le_refl _, (p7 + runeW x0 p7), y33.2.1, l148, v149, J152, H, (Nat.le_of_succ_le hq23), ⟨rfl, rfl, rfl, rfl, rfl, trivial⟩, hL13, (S.sel 6 [4, 5, 1, 3, 2] rfl), h151⟩)
     rw [if_neg cc143] at H
     refine cF rfl (eqF cc143) <| sr <| u rfl (x_bin rfl rfl rfl) <| mv (.bool ((runeAt x0 p7) == 43)) rfl ?_
     by_cases cc154 : (runeAt x0 p7) = 43
     ·rw [if_pos cc154] at H
      refine cT rfl (eqT cc154) <| sk <| cT rfl (eqT cc154) <| rg <| u rfl (x_ld tsc112 rfl (S.load 2 rfl 0 rfl)) <| mv (.int .i32 (runeAt x0 p7)) rfl <| u rfl (x_bld tz124 tpl124 rfl (.one rfl PC.nil) rfl) <| g rfl (o_bsl tsl112 tz124 rfl rfl rfl rfl (.agg PC.nil) rfl S fun b155 w S => ?_)
      obtain ⟨J156, hJ158, S, h157⟩ := S.freeze (r := R_regex_sign) (l := [(T_sg.mk (runeAt x0 p7) 0 false)]) 0 rfl ⟨[.int .i32 (runeAt x0 p7), .int .u32 0, .bool false], _, rfl, rfl, rfl⟩ rfl rfl
      have hy33_2 := hy33_2.mono hJ158
      have hL13 := hL13.trans hJ158
      obtain ⟨l159, h161, H⟩ := obx H
      refine g rfl (o_appD (r := R_regex_sign) tsl112 rfl tz124 rfl rfl S 4 rfl rfl hy33_2 h157 h161 fun v160 w J163 hJ164 S h162 => ?_)
      have hL13 := hL13.trans hJ164
      refine g rfl (o_st tone112 S 3 rfl rfl rfl h162.one fun w S => ⟨q12, Nat.le_refl _, (p7 + runeW x0 p7), y33.2.1, l159, v160, J163, H, (Nat.le_of_succ_le hq23), ⟨rfl, rfl, rfl, rfl, rfl, trivial⟩, hL13, (S.sel 6 [4, 5, 1, 3, 2] rfl), h162⟩)
     rw [if_neg cc154] at H
     refine cF rfl (eqF cc154) <| sr <| u rfl (x_bin rfl rfl rfl) <| mv (.bool ((runeAt x0 p7) == 63)) rfl ?_
     by_cases cc165 : (runeAt x0 p7) = 63
     ·rw [if_pos cc165] at H
      refine cT rfl (eqT cc165) <| sk <| cT rfl (eqT cc165) <| rg <| u rfl (x_ld tsc112 rfl (S.load 2 rfl 0 rfl)) <| mv (.int .i32 (runeAt x0 p7)) rfl <| u rfl (x_bld tz124 tpl124 rfl (.one rfl PC.nil) rfl) <| g rfl (o_bsl tsl112 tz124 rfl rfl rfl rfl (.agg PC.nil) rfl S fun b166 w S => ?_)
      obtain ⟨J167, hJ169, S, h168⟩ := S.freeze (r := R_regex_sign) (l := [(T_sg.mk (runeAt x0 p7) 0 false)]) 0 rfl ⟨[.int .i32 (runeAt x0 p7), .int .u32 0, .bool false], _, rfl, rfl, rfl⟩ rfl rfl
      have hy33_2 := hy33_2.mono hJ169
      have hL13 := hL13.trans hJ169
      obtain ⟨l170, h172, H⟩ := obx H
      refine g rfl (o_appD (r := R_regex_sign) tsl112 rfl tz124 rfl rfl S 4 rfl rfl hy33_2 h168 h172 fun v171 w J174 hJ175 S h173 => ?_)
      have hL13 := hL13.trans hJ175
      refine g rfl (o_st tone112 S 3 rfl rfl rfl h173.one fun w S => ⟨q12, Nat.le_refl _, (p7 + runeW x0 p7), y33.2.1, l170, v171, J174, H, (Nat.le_of_succ_le hq23), ⟨rfl, rfl, rfl, rfl, rfl, trivial⟩, hL13, (S.sel 6 [4, 5, 1, 3, 2] rfl), h173⟩)
     rw [if_neg cc165] at H
     refine cF rfl (eqF cc165) <| sr <| u rfl (x_bin rfl rfl rfl) <| mv (.bool ((runeAt x0 p7) == 45)) rfl ?_
     by_cases cc176 : (runeAt x0 p7) = 45
     ·rw [if_pos cc176] at H
      refine cT rfl (eqT cc176) <| sk <| cT rfl (eqT cc176) <| FW.anew [(1, pt b1), (4, pt b2), (5, pt b3), (6, .func (.func 112) #[] #[pt b3, pt b1, pt b2]), (8, .int .i32 (runeAt x0 p7)), (13, pt b4)] ⟨rfl, rfl, rfl, rfl, rfl, rfl, trivial⟩ fun σ => rg <| u rfl (x_ld tsc112 rfl (S.load 2 rfl 0 rfl)) <| mv (.int .i32 (runeAt x0 p7)) rfl <| u rfl (x_bld tz124 tpl124 rfl (.one rfl PC.nil) rfl) <| g rfl (o_bsl tsl112 tz124 rfl rfl rfl rfl (.agg PC.nil) rfl S fun b177 w S => ?_)
      obtain ⟨J178, hJ180, S, h179⟩ := S.freeze (r := R_regex_sign) (l := [(T_sg.mk (runeAt x0 p7) 0 false)]) 0 rfl ⟨[.int .i32 (runeAt x0 p7), .int .u32 0, .bool false], _, rfl, rfl, rfl⟩ rfl rfl
      have hy33_2 := hy33_2.mono hJ180
      have hL13 := hL13.trans hJ180
      obtain ⟨l181, h183, H⟩ := obx H
      refine g rfl (o_appD (r := R_regex_sign) tsl112 rfl tz124 rfl rfl S 4 rfl rfl hy33_2 h179 h183 fun v182 w J185 hJ186 S h184 => ?_)
      have hL13 := hL13.trans hJ186
      refine g rfl (o_st tone112 S 3 rfl rfl rfl h184.one fun w S => ⟨q12, Nat.le_refl _, (p7 + runeW x0 p7), y33.2.1, l181, v182, J185, H, (Nat.le_of_succ_le hq23), ⟨rfl, rfl, rfl, rfl, rfl, trivial⟩, hL13, (S.sel 6 [4, 5, 1, 3, 2] rfl), h184⟩)
     rw [if_neg cc176] at H
     refine cF rfl (eqF cc176) <| FW.anew [(1, pt b1), (4, pt b2), (5, pt b3), (6, .func (.func 112) #[] #[pt b3, pt b1, pt b2]), (8, .int .i32 (runeAt x0 p7)), (13, pt b4), (31, .int .i32 (runeAt x0 p7))] ⟨rfl, rfl, rfl, rfl, rfl, rfl, rfl, trivial⟩ fun σ => rg <| u rfl (x_bin rfl rfl rfl) <| mv (.bool ((runeAt x0 p7) == 44)) rfl ?_
     by_cases cc187 : (runeAt x0 p7) = 44
     ·rw [if_pos cc187] at H
      refine cT rfl (eqT cc187) <| rg <| u rfl (x_ld tsc112 rfl (S.load 2 rfl 0 rfl)) <| mv (.int .i32 (runeAt x0 p7)) rfl <| u rfl (x_bld tz124 tpl124 rfl (.one rfl PC.nil) rfl) <| g rfl (o_bsl tsl112 tz124 rfl rfl rfl rfl (.agg PC.nil) rfl S fun b188 w S => ?_)
      obtain ⟨J189, hJ191, S, h190⟩ := S.freeze (r := R_regex_sign) (l := [(T_sg.mk (runeAt x0 p7) 0 false)]) 0 rfl ⟨[.int .i32 (runeAt x0 p7), .int .u32 0, .bool false], _, rfl, rfl, rfl⟩ rfl rfl
      have hy33_2 := hy33_2.mono hJ191
      have hL13 := hL13.trans hJ191
      obtain ⟨l192, h194, H⟩ := obx H
      refine g rfl (o_appD (r := R_regex_sign) tsl112 rfl tz124 rfl rfl S 4 rfl rfl hy33_2 h190 h194 fun v193 w J196 hJ197 S h195 => ?_)
      have hL13 := hL13.trans hJ197
      refine g rfl (o_st tone112 S 3 rfl rfl rfl h195.one fun w S => ⟨q12, Nat.le_refl _, (p7 + runeW x0 p7), y33.2.1, l192, v193, J196, H, (Nat.le_of_succ_le hq23), ⟨rfl, rfl, rfl, rfl, rfl, trivial⟩, hL13, (S.sel 6 [4, 5, 1, 3, 2] rfl), h195⟩)
     rw [if_neg cc187] at H
     refine cF rfl (eqF cc187) <| sr <| mv ((.slice none 0 0)) rfl <| mv (.bool false) rfl <| rt ?_
     have S := S.nil_tv 124 3
     obtain rfl := si H
     obtain rfl := si HO15
     exact ⟨_, ⟨_, rfl, ⟨_, rfl, rfl⟩⟩, ⟨(.slice none 0 0), J38, hI, rfl, (SlR.nil _ _), (S.sel 6 [0] rfl)⟩⟩
    rw [if_neg cc37] at H
    refine cT rfl (noT (vaF cc37)) <| sr <| mv ((.slice none 0 0)) rfl <| mv (.bool false) rfl <| rt ?_
    have S := S.nil_tv 124 3
    obtain rfl := si H
    obtain rfl := si HO15
    exact ⟨_, ⟨_, rfl, ⟨_, rfl, rfl⟩⟩, ⟨(.slice none 0 0), J35, hI, rfl, (SlR.nil _ _), (S.sel 6 [0] rfl)⟩⟩
   rw [if_neg cc25] at H
   refine gn rfl rfl rfl (deF cc25) <| gn rfl rfl rfl (deF cc25) <| u rfl (x_pickFV (v := .bool false) rfl (deF cc25) rfl) <| cF rfl rfl <| sk <| sq <| sq <| FW.anew [(1, pt b1), (4, pt b2), (5, pt b3), (6, .func (.func 112) #[] #[pt b3, pt b1, pt b2]), (7, .int .i64 ((p7 : Nat) : Int)), (8, .int .i32 (runeAt x0 p7)), (13, pt b4)] ⟨rfl, rfl, rfl, rfl, rfl, rfl, rfl, trivial⟩ fun σ => rg <| mv (.func (.func 112) #[] #[pt b3, pt b1, pt b2]) rfl <| mv (.int .i64 ((p7 : Nat) : Int)) rfl ?_
   obtain ⟨y200, hy201, H⟩ := obx H
   refine g rfl (clv rfl fb112 (@regex_signs_1.ok q12 ((p7 : Nat) : Int) n8 x0 l9 _ _ _ _ _ _ _ _ hG (S.sel 5 [2, 4, 3, 0, 1] rfl) h11 hy201) rfl ?_)
   rintro _ w ⟨vy200_2, J202, hJ203, rfl, hy200_2, S⟩
   have hI := hI.trans hJ203
   have hL13 := hL13.trans hJ203
   refine u rfl (x_not' rfl) ?_
   by_cases cc204 : y200.1 = true
   ·rw [if_pos cc204] at H
    refine cF rfl (noF cc204) <| sk <| sr <| mv (.int .i32 (runeAt x0 p7)) rfl <| bk <| sq <| sr <| u rfl (x_bin rfl rfl rfl) <| mv (.bool ((runeAt x0 p7) == 32)) rfl ?_
    obtain ⟨o207, H, HO208⟩ := obx H
    have hL209 := ilr J202
    refine FW.cutN (fun σ w => ∃ (b206 : Bool) (J205 : IMem), b206 = o207 ∧ Has σ [(1, pt b1), (4, pt b2), (5, pt b3), (6, .func (.func 112) #[] #[pt b3, pt b1, pt b2]), (8, .int .i32 (runeAt x0 p7)), (13, pt b4), (31, .int .i32 (runeAt x0 p7)), (32, .bool b206)] ∧ J202.le J205 ∧ Own J205 w (.bk b3 3 [.int .i64 y200.2.1] :: .bk b1 9 [.string x0] :: .bk b2 112 [vy200_2] :: .tv vy200_2 124 3 :: .ob b4 (.stringIter x0 (p7 + runeW x0 p7)) :: F)) ?_ ?_
    ·by_cases cc210 : (runeAt x0 p7) = 32
     ·rw [if_pos cc210] at H
      refine cT rfl (eqT cc210) <| sk ⟨((runeAt x0 p7) == 32), J202, (si H), ⟨rfl, rfl, rfl, rfl, rfl, rfl, rfl, rfl, trivial⟩, hL209, S⟩
     rw [if_neg cc210] at H
     refine cF rfl (eqF cc210) <| FW.anew [(1, pt b1), (4, pt b2), (5, pt b3), (6, .func (.func 112) #[] #[pt b3, pt b1, pt b2]), (8, .int .i32 (runeAt x0 p7)), (13, pt b4), (31, .int .i32 (runeAt x0 p7))] ⟨rfl, rfl, rfl, rfl, rfl, rfl, rfl, trivial⟩ fun σ => rg <| u rfl (x_bin rfl rfl rfl) <| mv (.bool ((runeAt x0 p7) == 95)) rfl ⟨((runeAt x0 p7) == 95), J202, (si H), ⟨rfl, rfl, rfl, rfl, rfl, rfl, rfl, rfl, trivial⟩, hL209, S⟩
    rintro σ w ⟨b206, J205, ho, hσ, hL209, S⟩
    subst ho
    have H := HO208
    have hy200_2 := hy200_2.mono hL209
    have hI := hI.trans hL209
    have hL13 := hL13.trans hL209
    rw [hσ.eq]
    by_cases cc211 : b206 = true
    ·rw [if_pos cc211] at H
     refine cT rfl cc211 <| rg <| u rfl (x_ld tsc112 rfl (S.load 2 rfl 0 rfl)) <| u rfl (x_bld tz124 tpl124 rfl (.one rfl PC.nil) rfl) <| g rfl (o_bsl tsl112 tz124 rfl rfl rfl rfl (.agg PC.nil) rfl S fun b212 w S => ?_)
     obtain ⟨J213, hJ215, S, h214⟩ := S.freeze (r := R_regex_sign) (l := [(T_sg.mk 32 0 false)]) 0 rfl ⟨[.int .i32 32, .int .u32 0, .bool false], _, rfl, rfl, rfl⟩ rfl rfl
     have hy200_2 := hy200_2.mono hJ215
     have hL13 := hL13.trans hJ215
     obtain ⟨l216, h218, H⟩ := obx H
     refine g rfl (o_appD (r := R_regex_sign) tsl112 rfl tz124 rfl rfl S 4 rfl rfl hy200_2 h214 h218 fun v217 w J220 hJ221 S h219 => ?_)
     have hL13 := hL13.trans hJ221
     refine g rfl (o_st tone112 S 3 rfl rfl rfl h219.one fun w S => ⟨q12, Nat.le_refl _, (p7 + runeW x0 p7), y200.2.1, l216, v217, J220, H, (Nat.le_of_succ_le hq23), ⟨rfl, rfl, rfl, rfl, rfl, trivial⟩, hL13, (S.sel 6 [4, 5, 1, 3, 2] rfl), h219⟩)
    rw [if_neg cc211] at H
    refine cF rfl (vaF cc211) <| sq <| sr <| u rfl (x_bin rfl rfl rfl) <| mv (.bool ((runeAt x0 p7) == 124)) rfl ?_
    by_cases cc222 : (runeAt x0 p7) = 124
    ·rw [if_pos cc222] at H
     refine cT rfl (eqT cc222) <| sk <| cT rfl (eqT cc222) <| rg <| u rfl (x_ld tsc112 rfl (S.load 2 rfl 0 rfl)) <| mv (.int .i32 (runeAt x0 p7)) rfl <| u rfl (x_bld tz124 tpl124 rfl (.one rfl PC.nil) rfl) <| g rfl (o_bsl tsl112 tz124 rfl rfl rfl rfl (.agg PC.nil) rfl S fun b223 w S => ?_)
     obtain ⟨J224, hJ226, S, h225⟩ := S.freeze (r := R_regex_sign) (l := [(T_sg.mk (runeAt x0 p7) 0 false)]) 0 rfl ⟨[.int .i32 (runeAt x0 p7), .int .u32 0, .bool false], _, rfl, rfl, rfl⟩ rfl rfl
     have hy200_2 := hy200_2.mono hJ226
     have hL13 := hL13.trans hJ226
     obtain ⟨l227, h229, H⟩ := obx H
     refine g rfl (o_appD (r := R_regex_sign) tsl112 rfl tz124 rfl rfl S 4 rfl rfl hy200_2 h225 h229 fun v228 w J231 hJ232 S h230 => ?_)
     have hL13 := hL13.trans hJ232
     refine g rfl (o_st tone112 S 3 rfl rfl rfl h230.one fun w S => ⟨q12, Nat.le_refl _, (p7 + runeW x0 p7), y200.2.1, l227, v228, J231, H, (Nat.le_of_succ_le hq23), ⟨rfl, rfl, rfl, rfl, rfl, trivial⟩, hL13, (S.sel 6 [4, 5, 1, 3, 2] rfl), h230⟩)
    rw [if_neg cc222] at H
    refine cF rfl (eqF cc222) <| sr <| u rfl (x_bin rfl rfl rfl) <| mv (.bool ((runeAt x0 p7) == 40)) rfl ?_
    by_cases cc233 : (runeAt x0 p7) = 40
    ·rw [if_pos cc233] at H
     refine cT rfl (eqT cc233) <| sk <| cT rfl (eqT cc233) <| rg <| u rfl (x_ld tsc112 rfl (S.load 2 rfl 0 rfl)) <| mv (.int .i32 (runeAt x0 p7)) rfl <| u rfl (x_bld tz124 tpl124 rfl (.one rfl PC.nil) rfl) <| g rfl (o_bsl tsl112 tz124 rfl rfl rfl rfl (.agg PC.nil) rfl S fun b234 w S => ?_)
     obtain ⟨J235, hJ237, S, h236⟩ := S.freeze (r := R_regex_sign) (l := [(T_sg.mk (runeAt x0 p7) 0 false)]) 0 rfl ⟨[.int .i32 (runeAt x0 p7), .int .u32 0, .bool false], _, rfl, rfl, rfl⟩ rfl rfl
     have hy200_2 := hy200_2.mono hJ237
     have hL13 := hL13.trans hJ237
     obtain ⟨l238, h240, H⟩ := obx H
     refine g rfl (o_appD (r := R_regex_sign) tsl112 rfl tz124 rfl rfl S 4 rfl rfl hy200_2 h236 h240 fun v239 w J242 hJ243 S h241 => ?_)
     have hL13 := hL13.trans hJ243
     refine g rfl (o_st tone112 S 3 rfl rfl rfl h241.one fun w S => ⟨q12, Nat.le_refl _, (p7 + runeW x0 p7), y200.2.1, l238, v239, J242, H, (Nat.le_of_succ_le hq23), ⟨rfl, rfl, rfl, rfl, rfl, trivial⟩, hL13, (S.sel 6 [4, 5, 1, 3, 2] rfl), h241⟩)
    rw [if_neg cc233] at H
    refine cF rfl (eqF cc233) <| sr <| u rfl (x_bin rfl rfl rfl) <| mv (.bool ((runeAt x0 p7) == 41)) rfl ?_
    by_cases cc244 : (runeAt x0 p7) = 41
    ·rw [if_pos cc244] at H
     refine cT rfl (eqT cc244) <| sk <| cT rfl (eqT cc244) <| rg <| u rfl (x_ld tsc112 rfl (S.load 2 rfl 0 rfl)) <| mv (.int .i32 (runeAt x0 p7)) rfl <| u rfl (x_bld tz124 tpl124 rfl (.one rfl PC.nil) rfl) <| g rfl (o_bsl tsl112 tz124 rfl rfl rfl rfl (.agg PC.nil) rfl S fun b245 w S => ?_)
     obtain ⟨J246, hJ248, S, h247⟩ := S.freeze (r := R_regex_sign) (l := [(T_sg.mk (runeAt x0 p7) 0 false)]) 0 rfl ⟨[.int .i32 (runeAt x0 p7), .int .u32 0, .bool false], _, rfl, rfl, rfl⟩ rfl rfl
     have hy200_2 := hy200_2.mono hJ248
     have hL13 := hL13.trans hJ248
     obtain ⟨l249, h251, H⟩ := obx H
     refine g rfl (o_appD (r := R_regex_sign) tsl112 rfl tz124 rfl rfl S 4 rfl rfl hy200_2 h247 h251 fun v250 w J253 hJ254 S h252 => ?_)
     have hL13 := hL13.trans hJ254
     refine g rfl (o_st tone112 S 3 rfl rfl rfl h252.one fun w S => ⟨q12, Nat.le_refl _, (p7 + runeW x0 p7), y200.2.1, l249, v250, J253, H, (Nat.le_of_succ_le hq23), ⟨rfl, rfl, rfl, rfl, rfl, trivial⟩, hL13, (S.sel 6 [4, 5, 1, 3, 2] rfl), h252⟩)
    rw [if_neg cc244] at H
    refine cF rfl (eqF cc244) <| sr <| u rfl (x_bin rfl rfl rfl) <| mv (.bool ((runeAt x0 p7) == 91)) rfl ?_
    by_cases cc255 : (runeAt x0 p7) = 91
    ·rw [if_pos cc255] at H
     refine cT rfl (eqT cc255) <| sk <| cT rfl (eqT cc255) <| FW.anew [(1, pt b1), (4, pt b2), (5, pt b3), (6, .func (.func 112) #[] #[pt b3, pt b1, pt b2]), (8, .int .i32 (runeAt x0 p7)), (13, pt b4)] ⟨rfl, rfl, rfl, rfl, rfl, rfl, trivial⟩ fun σ => rg <| u rfl (x_ld tsc112 rfl (S.load 2 rfl 0 rfl)) <| mv (.int .i32 (runeAt x0 p7)) rfl <| u rfl (x_bld tz124 tpl124 rfl (.one rfl PC.nil) rfl) <| g rfl (o_bsl tsl112 tz124 rfl rfl rfl rfl (.agg PC.nil) rfl S fun b256 w S => ?_)
     obtain ⟨J257, hJ259, S, h258⟩ := S.freeze (r := R_regex_sign) (l := [(T_sg.mk (runeAt x0 p7) 0 false)]) 0 rfl ⟨[.int .i32 (runeAt x0 p7), .int .u32 0, .bool false], _, rfl, rfl, rfl⟩ rfl rfl
     have hy200_2 := hy200_2.mono hJ259
     have hL13 := hL13.trans hJ259
     obtain ⟨l260, h262, H⟩ := obx H
     refine g rfl (o_appD (r := R_regex_sign) tsl112 rfl tz124 rfl rfl S 4 rfl rfl hy200_2 h258 h262 fun v261 w J264 hJ265 S h263 => ?_)
     have hL13 := hL13.trans hJ265
     refine g rfl (o_st tone112 S 3 rfl rfl rfl h263.one fun w S => ⟨q12, Nat.le_refl _, (p7 + runeW x0 p7), y200.2.1, l260, v261, J264, H, (Nat.le_of_succ_le hq23), ⟨rfl, rfl, rfl, rfl, rfl, trivial⟩, hL13, (S.sel 6 [4, 5, 1, 3, 2] rfl), h263⟩)
    rw [if_neg cc255] at H
    refine cF rfl (eqF cc255) <| sq <| FW.anew [(1, pt b1), (4, pt b2), (5, pt b3), (6, .func (.func 112) #[] #[pt b3, pt b1, pt b2]), (8, .int .i32 (runeAt x0 p7)), (13, pt b4), (31, .int .i32 (runeAt x0 p7))] ⟨rfl, rfl, rfl, rfl, rfl, rfl, rfl, trivial⟩ fun σ => rg <| u rfl (x_bin rfl rfl rfl) <| mv (.bool ((runeAt x0 p7) == 93)) rfl ?_
    by_cases cc266 : (runeAt x0 p7) = 93
    ·rw [if_pos cc266] at H
     refine cT rfl (eqT cc266) <| sk <| cT rfl (eqT cc266) <| rg <| u rfl (x_ld tsc112 rfl (S.load 2 rfl 0 rfl)) <| mv (.int .i32 (runeAt x0 p7)) rfl <| u rfl (x_bld tz124 tpl124 rfl (.one rfl PC.nil) rfl) <| g rfl (o_bsl tsl112 tz124 rfl rfl rfl rfl (.agg PC.nil) rfl S fun b267 w S => ?_)
     obtain ⟨J268, hJ270, S, h269⟩ := S.freeze (r := R_regex_sign) (l := [(T_sg.mk (runeAt x0 p7) 0 false)]) 0 rfl ⟨[.int .i32 (runeAt x0 p7), .int .u32 0, .bool false], _, rfl, rfl, rfl⟩ rfl rfl
     have hy200_2 := hy200_2.mono hJ270
     have hL13 := hL13.trans hJ270
     obtain ⟨l271, h273, H⟩ := obx H
     refine g rfl (o_appD (r := R_regex_sign) tsl112 rfl tz124 rfl rfl S 4 rfl rfl hy200_2 h269 h273 fun v272 w J275 hJ276 S h274 => ?_)
     have hL13 := hL13.trans hJ276
     refine g rfl (o_st tone112 S 3 rfl rfl rfl h274.one fun w S => ⟨q12, Nat.le_refl _, (p7 + runeW x0 p7), y200.2.1, l271, v272, J275, H, (Nat.le_of_succ_le hq23), ⟨rfl, rfl, rfl, rfl, rfl, trivial⟩, hL13, (S.sel 6 [4, 5, 1, 3, 2] rfl), h274⟩)
    rw [if_neg cc266] at H
    refine cF rfl (eqF cc266) <| sr <| u rfl (x_bin rfl rfl rfl) <| mv (.bool ((runeAt x0 p7) == 94)) rfl ?_
    by_cases cc277 : (runeAt x0 p7) = 94
    ·rw [if_pos cc277] at H
     refine cT rfl (eqT cc277) <| sk <| cT rfl (eqT cc277) <| rg <| u rfl (x_ld tsc112 rfl (S.load 2 rfl 0 rfl)) <| mv (.int .i32 (runeAt x0 p7)) rfl <| u rfl (x_bld tz124 tpl124 rfl (.one rfl PC.nil) rfl) <| g rfl (o_bsl tsl112 tz124 rfl rfl rfl rfl (.agg PC.nil) rfl S fun b278 w S => ?_)
     obtain ⟨J279, hJ281, S, h280⟩ := S.freeze (r := R_regex_sign) (l := [(T_sg.mk (runeAt x0 p7) 0 false)]) 0 rfl ⟨[.int .i32 (runeAt x0 p7), .int .u32 0, .bool false], _, rfl, rfl, rfl⟩ rfl rfl
     have hy200_2 := hy200_2.mono hJ281
     have hL13 := hL13.trans hJ281
     obtain ⟨l282, h284, H⟩ := obx H
     refine g rfl (o_appD (r := R_regex_sign) tsl112 rfl tz124 rfl rfl S 4 rfl rfl hy200_2 h280 h284 fun v283 w J286 hJ287 S h285 => ?_)
     have hL13 := hL13.trans hJ287
     refine g rfl (o_st tone112 S 3 rfl rfl rfl h285.one fun w S => ⟨q12, Nat.le_refl _, (p7 + runeW x0 p7), y200.2.1, l282, v283, J286, H, (Nat.le_of_succ_le hq23), ⟨rfl, rfl, rfl, rfl, rfl, trivial⟩, hL13, (S.sel 6 [4, 5, 1, 3, 2] rfl), h285⟩)
    rw [if_neg cc277] at H
    refine cF rfl (eqF cc277) <| sr <| u rfl (x_bin rfl rfl rfl) <| mv (.bool ((runeAt x0 p7) == 36)) rfl ?_
    by_cases cc288 : (runeAt x0 p7) = 36
    ·rw [if_pos cc288] at H
     refine cT rfl (eqT cc288) <| sk <| cT rfl (eqT cc288) <| rg <| u rfl (x_ld tsc112 rfl (S.load 2 rfl 0 rfl)) <| mv (.int .i32 (runeAt x0 p7)) rfl <| u rfl (x_bld tz124 tpl124 rfl (.one rfl PC.nil) rfl) <| g rfl (o_bsl tsl112 tz124 rfl rfl rfl rfl (.agg PC.nil) rfl S fun b289 w S => ?_)
     obtain ⟨J290, hJ292, S, h291⟩ := S.freeze (r := R_regex_sign) (l := [(T_sg.mk (runeAt x0 p7) 0 false)]) 0 rfl ⟨[.int .i32 (runeAt x0 p7), .int .u32 0, .bool false], _, rfl, rfl, rfl⟩ rfl rfl
     have hy200_2 := hy200_2.mono hJ292
     have hL13 := hL13.trans hJ292
     obtain ⟨l293, h295, H⟩ := obx H
     refine g rfl (o_appD (r := R_regex_sign) tsl112 rfl tz124 rfl rfl S 4 rfl rfl hy200_2 h291 h295 fun v294 w J297 hJ298 S h296 => ?_)
     have hL13 := hL13.trans hJ298
     refine g rfl (o_st tone112 S 3 rfl rfl rfl h296.one fun w S => ⟨q12, Nat.le_refl _, (p7 + runeW x0 p7), y200.2.1, l293, v294, J297, H, (Nat.le_of_succ_le hq23), ⟨rfl, rfl, rfl, rfl, rfl, trivial⟩, hL13, (S.sel 6 [4, 5, 1, 3, 2] rfl), h296⟩)
    rw [if_neg cc288] at H
    refine cF rfl (eqF cc288) <| sr <| u rfl (x_bin rfl rfl rfl) <| mv (.bool ((runeAt x0 p7) == 46)) rfl ?_
    by_cases cc299 : (runeAt x0 p7) = 46
    ·rw [if_pos cc299] at H
     refine cT rfl (eqT cc299) <| sk <| cT rfl (eqT cc299) <| FW.anew [(1, pt b1), (4, pt b2), (5, pt b3), (6, .func (.func 112) #[] #[pt b3, pt b1, pt b2]), (8, .int .i32 (runeAt x0 p7)), (13, pt b4)] ⟨rfl, rfl, rfl, rfl, rfl, rfl, trivial⟩ fun σ => rg <| u rfl (x_ld tsc112 rfl (S.load 2 rfl 0 rfl)) <| mv (.int .i32 (runeAt x0 p7)) rfl <| u rfl (x_bld tz124 tpl124 rfl (.one rfl PC.nil) rfl) <| g rfl (o_bsl tsl112 tz124 rfl rfl rfl rfl (.agg PC.nil) rfl S fun b300 w S => ?_)
     obtain ⟨J301, hJ303, S, h302⟩ := S.freeze (r := R_regex_sign) (l := [(T_sg.mk (runeAt x0 p7) 0 false)]) 0 rfl ⟨[.int .i32 (runeAt x0 p7), .int .u32 0, .bool false], _, rfl, rfl, rfl⟩ rfl rfl
     have hy200_2 := hy200_2.mono hJ303
     have hL13 := hL13.trans hJ303
     obtain ⟨l304, h306, H⟩ := obx H
     refine g rfl (o_appD (r := R_regex_sign) tsl112 rfl tz124 rfl rfl S 4 rfl rfl hy200_2 h302 h306 fun v305 w J308 hJ309 S h307 => ?_)
     have hL13 := hL13.trans hJ309
     refine g rfl (o_st tone112 S 3 rfl rfl rfl h307.one fun w S => ⟨q12, Nat.le_refl _, (p7 + runeW x0 p7), y200.2.1, l304, v305, J308, H, (Nat.le_of_succ_le hq23), ⟨rfl, rfl, rfl, rfl, rfl, trivial⟩, hL13, (S.sel 6 [4, 5, 1, 3, 2] rfl), h307⟩)
    rw [if_neg cc299] at H
    refine cF rfl (eqF cc299) <| sq <| FW.anew [(1, pt b1), (4, pt b2), (5, pt b3), (6, .func (.func 112) #[] #[pt b3, pt b1, pt b2]), (8, .int .i32 (runeAt x0 p7)), (13, pt b4), (31, .int .i32 (runeAt x0 p7))] ⟨rfl, rfl, rfl, rfl, rfl, rfl, rfl, trivial⟩ fun σ => rg <| u rfl (x_bin rfl rfl rfl) <| mv (.bool ((runeAt x0 p7) == 42)) rfl ?_
    by_cases cc310 : (runeAt x0 p7) = 42
    ·rw [if_pos cc310] at H
     refine cT rfl (eqT cc310) <| sk <| cT rfl (eqT cc310) <| rg <| u rfl (x_ld tsc112 rfl (S.load 2 rfl 0 rfl)) <| mv (.int .i32 (runeAt x0 p7)) rfl <| u rfl (x_bld tz124 tpl124 rfl (.one rfl PC.nil) rfl) <| g rfl (o_bsl tsl112 tz124 rfl rfl rfl rfl (.agg PC.nil) rfl S fun b311 w S => ?_)
     obtain ⟨J312, hJ314, S, h313⟩ := S.freeze (r := R_regex_sign) (l := [(T_sg.mk (runeAt x0 p7) 0 false)]) 0 rfl ⟨[.int .i32 (runeAt x0 p7), .int .u32 0, .bool false], _, rfl, rfl, rfl⟩ rfl rfl
     have hy200_2 := hy200_2.mono hJ314
     have hL13 := hL13.trans hJ314
     obtain ⟨l315, h317, H⟩ := obx H
     refine g rfl (o_appD (r := R_regex_sign) tsl112 rfl tz124 rfl rfl S 4 rfl rfl hy200_2 h313 h317 fun v316 w J319 hJ320 S h318 => ?_)
     have hL13 := hL13.trans hJ320
     refine g rfl (o_st tone112 S 3 rfl rfl rfl h318.one fun w S => ⟨q12, Nat.le_refl _, (p7 + runeW x0 p7), y200.2.1, l315, v316, J319, H, (Nat.le_of_succ_le hq23), ⟨rfl, rfl, rfl, rfl, rfl, trivial⟩, hL13, (S.sel 6 [4, 5, 1, 3, 2] rfl), h318⟩)
    rw [if_neg cc310] at H
    refine cF rfl (eqF cc310) <| sr <| u rfl (x_bin rfl rfl rfl) <| mv (.bool ((runeAt x0 p7) == 43)) rfl ?_
    by_cases cc321 : (runeAt x0 p7) = 43
    ·rw [if_pos cc321] at H
     refine cT rfl (eqT cc321) <| sk <| cT rfl (eqT cc321) <| rg <| u rfl (x_ld tsc112 rfl (S.load 2 rfl 0 rfl)) <| mv (.int .i32 (runeAt x0 p7)) rfl <| u rfl (x_bld tz124 tpl124 rfl (.one rfl PC.nil) rfl) <| g rfl (o_bsl tsl112 tz124 rfl rfl rfl rfl (.agg PC.nil) rfl S fun b322 w S => ?_)
     obtain ⟨J323, hJ325, S, h324⟩ := S.freeze (r := R_regex_sign) (l := [(T_sg.mk (runeAt x0 p7) 0 false)]) 0 rfl ⟨[.int .i32 (runeAt x0 p7), .int .u32 0, .bool false], _, rfl, rfl, rfl⟩ rfl rfl
     have hy200_2 := hy200_2.mono hJ325
     have hL13 := hL13.trans hJ325
     obtain ⟨l326, h328, H⟩ := obx H
     refine g rfl (o_appD (r := R_regex_sign) tsl112 rfl tz124 rfl rfl S 4 rfl rfl hy200_2 h324 h328 fun v327 w J330 hJ331 S h329 => ?_)
     have hL13 := hL13.trans hJ331
     refine g rfl (o_st tone112 S 3 rfl rfl rfl h329.one fun w S => ⟨q12, Nat.le_refl _, (p7 + runeW x0 p7), y200.2.1, l326, v327, J330, H, (Nat.le_of_succ_le hq23), ⟨rfl, rfl, rfl, rfl, rfl, trivial⟩, hL13, (S.sel 6 [4, 5, 1, 3, 2] rfl), h329⟩)
    rw [if_neg cc321] at H
    refine cF rfl (eqF cc321) <| sr <| u rfl (x_bin rfl rfl rfl) <| mv (.bool ((runeAt x0 p7) == 63)) rfl ?_
    by_cases cc332 : (runeAt x0 p7) = 63
    ·rw [if_pos cc332] at H
     refine cT rfl (eqT cc332) <| sk <| cT rfl (eqT cc332) <| rg <| u rfl (x_ld tsc112 rfl (S.load 2 rfl 0 rfl)) <| mv (.int .i32 (runeAt x0 p7)) rfl <| u rfl (x_bld tz124 tpl124 rfl (.one rfl PC.nil) rfl) <| g rfl (o_bsl tsl112 tz124 rfl rfl rfl rfl (.agg PC.nil) rfl S fun b333 w S => ?_)
     obtain ⟨J334, hJ336, S, h335⟩ := S.freeze (r := R_regex_sign) (l := [(T_sg.mk (runeAt x0 p7) 0 false)]) 0 rfl ⟨[.int .i32 (runeAt x0 p7), .int .u32 0, .bool false], _, rfl, rfl, rfl⟩ rfl rfl
     have hy200_2 := hy200_2.mono hJ336
     have hL13 := hL13.trans hJ336
     obtain ⟨l337, h339, H⟩ := obx H
     refine g rfl (o_appD (r := R_regex_sign) tsl112 rfl tz124 rfl rfl S 4 rfl rfl hy200_2 h335 h339 fun v338 w J341 hJ342 S h340 => ?_)
     have hL13 := hL13.trans hJ342
     refine g rfl (o_st tone112 S 3 rfl rfl rfl h340.one fun w S => ⟨q12, Nat.le_refl _, (p7 + runeW x0 p7), y200.2.1, l337, v338, J341, H, (Nat.le_of_succ_le hq23), ⟨rfl, rfl, rfl, rfl, rfl, trivial⟩, hL13, (S.sel 6 [4, 5, 1, 3, 2] rfl), h340⟩)
    rw [if_neg cc332] at H
    refine cF rfl (eqF cc332) <| sr <| u rfl (x_bin rfl rfl rfl) <| mv (.bool ((runeAt x0 p7) == 45)) rfl ?_
    by_cases cc343 : (runeAt x0 p7) = 45
    ·rw [if_pos cc343] at H
     refine cT rfl (eqT cc343) <| sk <| cT rfl (eqT cc343) <| FW.anew [(1, pt b1), (4, pt b2), (5, pt b3), (6, .func (.func 112) #[] #[pt b3, pt b1, pt b2]), (8, .int .i32 (runeAt x0 p7)), (13, pt b4)] ⟨rfl, rfl, rfl, rfl, rfl, rfl, trivial⟩ fun σ => rg <| u rfl (x_ld tsc112 rfl (S.load 2 rfl 0 rfl)) <| mv (.int .i32 (runeAt x0 p7)) rfl <| u rfl (x_bld tz124 tpl124 rfl (.one rfl PC.nil) rfl) <| g rfl (o_bsl tsl112 tz124 rfl rfl rfl rfl (.agg PC.nil) rfl S fun b344 w S => ?_)
     obtain ⟨J345, hJ347, S, h346⟩ := S.freeze (r := R_regex_sign) (l := [(T_sg.mk (runeAt x0 p7) 0 false)]) 0 rfl ⟨[.int .i32 (runeAt x0 p7), .int .u32 0, .bool false], _, rfl, rfl, rfl⟩ rfl rfl
     have hy200_2 := hy200_2.mono hJ347
     have hL13 := hL13.trans hJ347
     obtain ⟨l348, h350, H⟩ := obx H
     refine g rfl (o_appD (r := R_regex_sign) tsl112 rfl tz124 rfl rfl S 4 rfl rfl hy200_2 h346 h350 fun v349 w J352 hJ353 S h351 => ?_)
     have hL13 := hL13.trans hJ353
     refine g rfl (o_st tone112 S 3 rfl rfl rfl h351.one fun w S => ⟨q12, Nat.le_refl _, (p7 + runeW x0 p7), y200.2.1, l348, v349, J352, H, (Nat.le_of_succ_le hq23), ⟨rfl, rfl, rfl, rfl, rfl, trivial⟩, hL13, (S.sel 6 [4, 5, 1, 3, 2] rfl), h351⟩)
    rw [if_neg cc343] at H
    refine cF rfl (eqF cc343) <| FW.anew [(1, pt b1), (4, pt b2), (5, pt b3), (6, .func (.func 112) #[] #[pt b3, pt b1, pt b2]), (8, .int .i32 (runeAt x0 p7)), (13, pt b4), (31, .int .i32 (runeAt x0 p7))] ⟨rfl, rfl, rfl, rfl, rfl, rfl, rfl, trivial⟩ fun σ => rg <| u rfl (x_bin rfl rfl rfl) <| mv (.bool ((runeAt x0 p7) == 44)) rfl ?_
    by_cases cc354 : (runeAt x0 p7) = 44
    ·rw [if_pos cc354] at H
     refine cT rfl (eqT cc354) <| rg <| u rfl (x_ld tsc112 rfl (S.load 2 rfl 0 rfl)) <| mv (.int .i32 (runeAt x0 p7)) rfl <| u rfl (x_bld tz124 tpl124 rfl (.one rfl PC.nil) rfl) <| g rfl (o_bsl tsl112 tz124 rfl rfl rfl rfl (.agg PC.nil) rfl S fun b355 w S => ?_)
     obtain ⟨J356, hJ358, S, h357⟩ := S.freeze (r := R_regex_sign) (l := [(T_sg.mk (runeAt x0 p7) 0 false)]) 0 rfl ⟨[.int .i32 (runeAt x0 p7), .int .u32 0, .bool false], _, rfl, rfl, rfl⟩ rfl rfl
     have hy200_2 := hy200_2.mono hJ358
     have hL13 := hL13.trans hJ358
     obtain ⟨l359, h361, H⟩ := obx H
     refine g rfl (o_appD (r := R_regex_sign) tsl112 rfl tz124 rfl rfl S 4 rfl rfl hy200_2 h357 h361 fun v360 w J363 hJ364 S h362 => ?_)
     have hL13 := hL13.trans hJ364
     refine g rfl (o_st tone112 S 3 rfl rfl rfl h362.one fun w S => ⟨q12, Nat.le_refl _, (p7 + runeW x0 p7), y200.2.1, l359, v360, J363, H, (Nat.le_of_succ_le hq23), ⟨rfl, rfl, rfl, rfl, rfl, trivial⟩, hL13, (S.sel 6 [4, 5, 1, 3, 2] rfl), h362⟩)
    rw [if_neg cc354] at H
    refine cF rfl (eqF cc354) <| sr <| mv ((.slice none 0 0)) rfl <| mv (.bool false) rfl <| rt ?_
    have S := S.nil_tv 124 3
    obtain rfl := si H
    obtain rfl := si HO15
    exact ⟨_, ⟨_, rfl, ⟨_, rfl, rfl⟩⟩, ⟨(.slice none 0 0), J205, hI, rfl, (SlR.nil _ _), (S.sel 6 [0] rfl)⟩⟩
   rw [if_neg cc204] at H
   refine cT rfl (noT (vaF cc204)) <| sr <| mv ((.slice none 0 0)) rfl <| mv (.bool false) rfl <| rt ?_
   have S := S.nil_tv 124 3
   obtain rfl := si H
   obtain rfl := si HO15
   exact ⟨_, ⟨_, rfl, ⟨_, rfl, rfl⟩⟩, ⟨(.slice none 0 0), J202, hI, rfl, (SlR.nil _ _), (S.sel 6 [0] rfl)⟩⟩
  rw [if_neg cc24] at H
  refine g rfl (o_nxtF S 1 rfl rfl cc24 (u rfl (x_ext rfl rfl) (sq (cF rfl rfl (ex ⟨p7, n8, l9, v10, J6, (si H), ⟨rfl, rfl, rfl, trivial⟩, hL13, S, h11⟩)))))
 rintro σ w ⟨p18, n19, l20, v21, J17, ho, hσ, hL13, S, h22⟩
 subst ho
 have H := HO15
 try dsimp only at H
 have hI := hI.trans hL13
 have hG := hG.mono hL13
 rw [hσ.eq]
 refine sr <| u rfl (x_ld tsc9 rfl (S.load 4 rfl 0 rfl)) <| u rfl (x_lens tstr9 rfl) <| mv (.int .i64 (x0.size : Int)) rfl <| sr <| mv (.func (.func 112) #[] #[pt b3, pt b1, pt b2]) rfl <| mv (.int .i64 (x0.size : Int)) rfl ?_
 obtain ⟨y367, hy368, H⟩ := obx H
 refine g rfl (clv rfl fb112 (@regex_signs_1.ok k (x0.size : Int) n19 x0 l20 _ _ _ _ _ _ _ _ hG (S.sel 5 [2, 4, 3, 0, 1] rfl) h22 hy368) rfl ?_)
 rintro _ w ⟨vy367_2, J369, hJ370, rfl, hy367_2, S⟩
 have hI := hI.trans hJ370
 refine mv (.bool y367.1) rfl <| sq <| FW.anew [(4, pt b2), (10, .bool y367.1)] ⟨rfl, rfl, trivial⟩ fun σ => rg <| u rfl (x_ld tsc112 rfl (S.load 2 rfl 0 rfl)) <| mv (.bool y367.1) rfl <| mv vy367_2 rfl <| mv (.bool y367.1) rfl <| rt ?_
 obtain rfl := si H
 exact ⟨_, ⟨_, rfl, ⟨_, rfl, rfl⟩⟩, ⟨vy367_2, J369, hI, rfl, hy367_2, (S.sel 5 [3] rfl)⟩⟩
def rr_peek.l0 : Nat → (List T_sg) → Option (List T_sg)
  | 0, _ => none
  | k + 1, l3 => (if (l3.length : Int) > 0 then ((lat l3 0).bind fun y17 => (if y17.c = 32 then ((cutL l3 1).bind fun l26 => (rr_peek.l0 k l26)) else (some l3))) else (some l3))
def rr_peek.f (k : Nat) (x0 : T_regex_reader) : Option (T_sg × T_regex_reader) := ((rr_peek.l0 k x0.rest).bind fun l12 => (if (l12.length : Int) = 0 then (some ((T_sg.mk 0 0 false), (T_regex_reader.mk l12 x0.bad))) else ((lat l12 0).bind fun y30 => (some (y30, (T_regex_reader.mk l12 x0.bad))))))
abbrev rr_peek.C (k : Nat) : Prop := ∀ {x0 : T_regex_reader} {x0v0 : Value} {bx0 : Nat} {F : List It} {I : IMem} {w : World} {r : T_sg × T_regex_reader}, Glob I → Own I w (.bk bx0 117 [x0v0, .bool x0.bad] :: F) → SlR R_regex_sign I x0v0 x0.rest → rr_peek.f k x0 = some r →
    Calls Tryz.prog 83 #[pt bx0] w fun e w' => ∃ v, e = .returned v ∧ ∃ (y_1v0 : Value) (J : IMem), I.le J ∧ v = .agg #[.int .i32 r.1.c, .int .u32 r.1.n, .bool r.1.digits] ∧ SlR R_regex_sign J y_1v0 r.2.rest ∧ Own J w' (.bk bx0 117 [y_1v0, .bool r.2.bad] :: F)
theorem rr_peek.ok (k : Nat) : rr_peek.C k := by
 intro x0 x0v0 bx0 F I w r hG S x0h0 H
 have hI := ilr I
 rw [rr_peek.f] at H
 refine Calls.ofFW (args := [pt bx0]) Tryz.func83 rfl rfl <| sr <| g rfl (o_all tz124 S fun b1 w S => sq (bk ?_))
 obtain ⟨o8, hl10, HO9⟩ := obx H
 refine FW.cutX 0 (fun σ w => ∃ (l12 : (List T_sg)) (v13 : Value) (J11 : IMem), l12 = o8 ∧ Has σ [(0, pt bx0), (2, pt b1)] ∧ I.le J11 ∧ Own J11 w (.bk b1 124 [.int .i32 0, .int .u32 0, .bool false] :: .bk bx0 117 [v13, .bool x0.bad] :: F) ∧ SlR R_regex_sign J11 v13 l12) ?_ ?_
 ·refine FW.loop k (FL.ind (fun q σ w => ∃ (l3 : (List T_sg)) (v4 : Value) (J2 : IMem), rr_peek.l0 q l3 = some o8 ∧ q ≤ k ∧ Has σ [(0, pt bx0), (2, pt b1)] ∧ I.le J2 ∧ Own J2 w (.bk b1 124 [.int .i32 0, .int .u32 0, .bool false] :: .bk bx0 117 [v4, .bool x0.bad] :: F) ∧ SlR R_regex_sign J2 v4 l3) ?_ ?_ k k _ _ (Nat.le_refl _) ⟨x0.rest, x0v0, I, hl10, Nat.le_refl _, ⟨rfl, rfl, trivial⟩, (ilr _), S, x0h0⟩)
  ·rintro σ w ⟨l3, v4, J2, H, _⟩; cases H
  rintro q6 σ w ⟨l3, v4, J2, H, hq15, hσ, hL7, S, h5⟩
  rw [hσ.eq]
  rw [rr_peek.l0] at H
  refine sq <| sr <| mv (pt bx0) rfl <| u rfl (x_nk rfl) <| u rfl (x_fa tf117_0 rfl) <| u rfl (x_ld tsc112 rfl (S.load 1 rfl 0 rfl)) <| u rfl (x_lenD (r := R_regex_sign) tsl112 h5) <| u rfl (x_bin rfl rfl rfl) <| mv (.bool (decide ((l3.length : Int) > 0))) rfl ?_
  by_cases cc16 : (l3.length : Int) > 0
  ·rw [if_pos cc16] at H
   refine gu rfl rfl rfl (deT cc16) (x_movV (v := pt bx0) rfl) <| gu rfl rfl rfl (deT cc16) (x_nk rfl) <| gu rfl rfl rfl (deT cc16) (x_fa tf117_0 rfl) <| gu rfl rfl rfl (deT cc16) (x_ld tsc112 rfl (S.load 1 rfl 0 rfl)) ?_
   obtain ⟨y17, h18, H⟩ := obx H
   refine OK.gt rfl rfl rfl (deT cc16) (o_ia (r := R_regex_sign) tsl112 rfl rfl h5 rfl h18 fun b19 o20 cs21 hr22 hc23 => ?_)
   obtain rfl := hr22
   refine gu rfl rfl rfl (deT cc16) (x_fa tf124_0 rfl) <| gu rfl rfl rfl (deT cc16) (x_ld tsc21 rfl (S.cell _ _ _ (hc23 0 _ rfl))) <| gu rfl rfl rfl (deT cc16) (x_bin rfl rfl rfl) <| u rfl (x_pickTV (v := .bool (y17.c == 32)) rfl (deT cc16) rfl) ?_
   by_cases cc24 : y17.c = 32
   ·rw [if_pos cc24] at H
    refine cT rfl (eqT cc24) <| sk <| bk <| FW.anew [(0, pt bx0), (2, pt b1)] ⟨rfl, rfl, trivial⟩ fun σ => rg <| mv (pt bx0) rfl <| mv (pt bx0) rfl <| u rfl (x_nk rfl) <| u rfl (x_fa tf117_0 rfl) <| u rfl (x_ld tsc112 rfl (S.load 1 rfl 0 rfl)) ?_
    obtain ⟨l26, h25, H⟩ := obx H
    refine g rfl (o_cutL (r := R_regex_sign) tsl112 rfl h5 rfl h25 fun v27 h28 => u rfl (x_nk rfl) (u rfl (x_fa tf117_0 rfl) (g rfl (o_st tone112 S 1 rfl rfl rfl h28.one fun w S => ⟨q6, Nat.le_refl _, l26, v27, J2, H, (Nat.le_of_succ_le hq15), ⟨rfl, rfl, trivial⟩, hL7, S, h28⟩))))
   rw [if_neg cc24] at H
   refine cF rfl (eqF cc24) <| ex ⟨l3, v4, J2, (si H), ⟨rfl, rfl, trivial⟩, hL7, S, h5⟩
  rw [if_neg cc16] at H
  refine gn rfl rfl rfl (deF cc16) <| gn rfl rfl rfl (deF cc16) <| gn rfl rfl rfl (deF cc16) <| gn rfl rfl rfl (deF cc16) <| gn rfl rfl rfl (deF cc16) <| gn rfl rfl rfl (deF cc16) <| gn rfl rfl rfl (deF cc16) <| gn rfl rfl rfl (deF cc16) <| u rfl (x_pickFV (v := .bool false) rfl (deF cc16) rfl) <| cF rfl rfl <| ex ⟨l3, v4, J2, (si H), ⟨rfl, rfl, trivial⟩, hL7, S, h5⟩
 rintro σ w ⟨l12, v13, J11, ho, hσ, hL7, S, h14⟩
 subst ho
 have H := HO9
 have hI := hI.trans hL7
 rw [hσ.eq]
 refine sq <| sr <| mv (pt bx0) rfl <| u rfl (x_nk rfl) <| u rfl (x_fa tf117_0 rfl) <| u rfl (x_ld tsc112 rfl (S.load 1 rfl 0 rfl)) <| u rfl (x_lenD (r := R_regex_sign) tsl112 h14) <| u rfl (x_bin rfl rfl rfl) ?_
 by_cases cc29 : (l12.length : Int) = 0
 ·rw [if_pos cc29] at H
  refine cT rfl (eqT cc29) <| sr <| u rfl (x_bld tz124 tpl124 rfl PC.nil rfl) <| g rfl (o_stA tag124 S 0 rfl rfl rfl rfl (c1 rfl (c1 rfl (c1 rfl c0))) rfl fun w S => rt ?_)
  obtain rfl := si H
  exact ⟨_, ⟨_, _, _, rfl, rfl, ldA tag124 (S.loadW 0 rfl) rfl, rfl⟩, ⟨v13, J11, hI, rfl, h14, (S.sel 2 [1] rfl)⟩⟩
 rw [if_neg cc29] at H
 refine cF rfl (eqF cc29) <| sk <| sr <| mv (pt bx0) rfl <| u rfl (x_nk rfl) <| u rfl (x_fa tf117_0 rfl) <| u rfl (x_ld tsc112 rfl (S.load 1 rfl 0 rfl)) ?_
 obtain ⟨y30, h31, H⟩ := obx H
 refine g rfl (o_ia (r := R_regex_sign) tsl112 rfl rfl h14 rfl h31 fun b32 o33 cs34 hr35 hc36 => ?_)
 obtain rfl := hr35
 refine u rfl (x_ldA tag124 rfl (S.loadI hc36) rfl) <| g rfl (o_stA tag124 S 0 rfl rfl rfl rfl (c1 rfl (c1 rfl (c1 rfl c0))) rfl fun w S => rt ?_)
 obtain rfl := si H
 exact ⟨_, ⟨_, _, _, rfl, rfl, ldA tag124 (S.loadW 0 rfl) rfl, rfl⟩, ⟨v13, J11, hI, rfl, h14, (S.sel 2 [1] rfl)⟩⟩
def rr_next.f (k : Nat) (x0 : T_regex_reader) : Option (T_sg × T_regex_reader) := ((rr_peek.f k x0).bind fun y2 => (if (y2.2.rest.length : Int) > 0 then ((cutL y2.2.rest 1).bind fun l9 => (some (y2.1, (T_regex_reader.mk l9 y2.2.bad)))) else (some (y2.1, y2.2))))
abbrev rr_next.C (k : Nat) : Prop := ∀ {x0 : T_regex_reader} {x0v0 : Value} {bx0 : Nat} {F : List It} {I : IMem} {w : World} {r : T_sg × T_regex_reader}, Glob I → Own I w (.bk bx0 117 [x0v0, .bool x0.bad] :: F) → SlR R_regex_sign I x0v0 x0.rest → rr_next.f k x0 = some r →
    Calls Tryz.prog 115 #[pt bx0] w fun e w' => ∃ v, e = .returned v ∧ ∃ (y_1v0 : Value) (J : IMem), I.le J ∧ v = .agg #[.int .i32 r.1.c, .int .u32 r.1.n, .bool r.1.digits] ∧ SlR R_regex_sign J y_1v0 r.2.rest ∧ Own J w' (.bk bx0 117 [y_1v0, .bool r.2.bad] :: F)
theorem rr_next.ok (k : Nat) : rr_next.C k := by
 intro x0 x0v0 bx0 F I w r hG S x0h0 H
 have hI := ilr I
 rw [rr_next.f] at H
 refine Calls.ofFW (args := [pt bx0]) Tryz.func115 rfl rfl <| sr <| g rfl (o_all tz124 S fun b1 w S => sq (rg (mv (pt bx0) rfl ?_)))
 obtain ⟨y2, hy3, H⟩ := obx H
 refine g rfl (cl fb83 (@rr_peek.ok k x0 _ _ _ _ _ _ hG (S.sel 2 [1, 0] rfl) x0h0 hy3) rfl ?_)
 rintro _ w ⟨y2_1v0, J4, hJ5, rfl, y2_1h0, S⟩
 have hI := hI.trans hJ5
 refine g rfl (o_all tz124 S fun b6 w S => g rfl (o_stA tag124 S 0 rfl rfl rfl rfl (c1 rfl (c1 rfl (c1 rfl c0))) rfl fun w S => sq (sq (rg (mv (pt bx0) rfl (u rfl (x_nk rfl) (u rfl (x_fa tf117_0 rfl) (u rfl (x_ld tsc112 rfl (S.load 1 rfl 0 rfl)) (u rfl (x_lenD (r := R_regex_sign) tsl112 y2_1h0) (u rfl (x_bin rfl rfl rfl) ?_))))))))))
 by_cases cc7 : (y2.2.rest.length : Int) > 0
 ·rw [if_pos cc7] at H
  refine cT rfl (deT cc7) <| FW.anew [(0, pt bx0), (2, pt b1), (3, pt b6)] ⟨rfl, rfl, rfl, trivial⟩ fun σ => rg <| mv (pt bx0) rfl <| mv (pt bx0) rfl <| u rfl (x_nk rfl) <| u rfl (x_fa tf117_0 rfl) <| u rfl (x_ld tsc112 rfl (S.load 1 rfl 0 rfl)) ?_
  obtain ⟨l9, h8, H⟩ := obx H
  refine g rfl (o_cutL (r := R_regex_sign) tsl112 rfl y2_1h0 rfl h8 fun v10 h11 => u rfl (x_nk rfl) (u rfl (x_fa tf117_0 rfl) (g rfl (o_st tone112 S 1 rfl rfl rfl h11.one fun w S => sq (FW.anew [(2, pt b1), (3, pt b6)] ⟨rfl, rfl, trivial⟩ fun σ => rg (u rfl (x_ldA tag124 rfl (S.loadW 0 rfl) rfl) (g rfl (o_stA tag124 S 2 rfl rfl rfl rfl (c1 rfl (c1 rfl (c1 rfl c0))) rfl fun w S => rt ?_))))))))
  obtain rfl := si H
  exact ⟨_, ⟨_, _, _, rfl, rfl, ldA tag124 (S.loadW 2 rfl) rfl, rfl⟩, ⟨v10, J4, hI, rfl, h11, (S.sel 3 [1] rfl)⟩⟩
 rw [if_neg cc7] at H
 refine cF rfl (deF cc7) <| sk <| sq <| FW.anew [(2, pt b1), (3, pt b6)] ⟨rfl, rfl, trivial⟩ fun σ => rg <| u rfl (x_ldA tag124 rfl (S.loadW 0 rfl) rfl) <| g rfl (o_stA tag124 S 2 rfl rfl rfl rfl (c1 rfl (c1 rfl (c1 rfl c0))) rfl fun w S => rt ?_)
 obtain rfl := si H
 exact ⟨_, ⟨_, _, _, rfl, rfl, ldA tag124 (S.loadW 2 rfl) rfl, rfl⟩, ⟨y2_1v0, J4, hI, rfl, y2_1h0, (S.sel 3 [1] rfl)⟩⟩
def rr_repeats.l0 : Nat → Int → (List T_pc) → (List T_regex_span) → Bool → (List T_sg) → Bool → Option (Sum (T_pc × T_regex_reader) Unit)
  | 0, _, _, _, _, _, _ => none
  | k + 1, n4, l5, l8, b11, l12, b15 => ((rr_peek.f k (T_regex_reader.mk l12 b15)).bind fun y22 => (if y22.1.c = 42 then ((rr_next.f k y22.2).bind fun y27 => (rr_repeats.l0 k 7 [(T_pc.mk n4 l5 l8 b11)] [] false y27.2.rest y27.2.bad)) else (if y22.1.c = 43 then ((rr_next.f k y22.2).bind fun y36 => (rr_repeats.l0 k 8 [(T_pc.mk n4 l5 l8 b11)] [] false y36.2.rest y36.2.bad)) else (if y22.1.c = 63 then ((rr_next.f k y22.2).bind fun y45 => (rr_repeats.l0 k 9 [(T_pc.mk n4 l5 l8 b11)] [] false y45.2.rest y45.2.bad)) else (some (.inl ((T_pc.mk n4 l5 l8 b11), y22.2)))))))
def rr_repeats.f (k : Nat) (x0 : T_regex_reader) (x1 : T_pc) : Option (T_pc × T_regex_reader) := ((rr_repeats.l0 k x1.kind x1.parts x1.spans x1.not x0.rest x0.bad).bind fun o => match o with | .inl r => some r | .inr _ => none)
abbrev rr_repeats.C (k : Nat) : Prop := ∀ {x0 : T_regex_reader} {x1 : T_pc} {x0v0 : Value} {x1v1 : Value} {x1v2 : Value} {bx0 : Nat} {F : List It} {I : IMem} {w : World} {r : T_pc × T_regex_reader}, Glob I → Own I w (.bk bx0 117 [x0v0, .bool x0.bad] :: F) → SlR R_regex_sign I x0v0 x0.rest → SlR R_regex_piece I x1v1 x1.parts → SlR R_regex_span I x1v2 x1.spans → rr_repeats.f k x0 x1 = some r →
    Calls Tryz.prog 141 #[pt bx0, .agg #[.int .i64 x1.kind, x1v1, x1v2, .bool x1.not]] w fun e w' => ∃ v, e = .returned v ∧ ∃ (y_0v1 : Value) (y_0v2 : Value) (y_1v0 : Value) (J : IMem), I.le J ∧ v = .agg #[.int .i64 r.1.kind, y_0v1, y_0v2, .bool r.1.not] ∧ SlR R_regex_piece J y_0v1 r.1.parts ∧ SlR R_regex_span J y_0v2 r.1.spans ∧ SlR R_regex_sign J y_1v0 r.2.rest ∧ Own J w' (.bk bx0 117 [y_1v0, .bool r.2.bad] :: F)
theorem rr_repeats.ok (k : Nat) : rr_repeats.C k := by
 intro x0 x1 x0v0 x1v1 x1v2 bx0 F I w r hG S x0h0 x1h1 x1h2 H
 have hI := ilr I
 rw [rr_repeats.f] at H
 refine Calls.ofFW (args := [pt bx0, .agg #[.int .i64 x1.kind, x1v1, x1v2, .bool x1.not]]) Tryz.func141 rfl rfl <| sr <| g rfl (o_boxA rfl S fun b1 w S => g rfl (o_all tz121 S fun b2 w S => bk ?_))
 obtain ⟨o18, hl20, HO19⟩ := obx H
 refine FW.loop k (FL.ind (fun q σ w => ∃ (n4 : Int) (l5 : (List T_pc)) (l8 : (List T_regex_span)) (b11 : Bool) (l12 : (List T_sg)) (b15 : Bool) (v6 : Value) (v9 : Value) (v13 : Value) (J3 : IMem), rr_repeats.l0 q n4 l5 l8 b11 l12 b15 = some o18 ∧ q ≤ k ∧ Has σ [(0, pt bx0), (3, pt b1), (4, pt b2)] ∧ I.le J3 ∧ Own J3 w (.bk b2 121 [.int .i64 0, (.slice none 0 0), (.slice none 0 0), .bool false] :: .bk b1 121 [.int .i64 n4, v6, v9, .bool b11] :: .bk bx0 117 [v13, .bool b15] :: F) ∧ SlR R_regex_piece J3 v6 l5 ∧ SlR R_regex_span J3 v9 l8 ∧ SlR R_regex_sign J3 v13 l12) ?_ ?_ k k _ _ (Nat.le_refl _) ⟨x1.kind, x1.parts, x1.spans, x1.not, x0.rest, x0.bad, x1v1, x1v2, x0v0, I, hl20, Nat.le_refl _, ⟨rfl, rfl, rfl, trivial⟩, (ilr _), S, x1h1, x1h2, x0h0⟩)
 ·rintro σ w ⟨n4, l5, l8, b11, l12, b15, v6, v9, v13, J3, H, _⟩; cases H
 rintro q16 σ w ⟨n4, l5, l8, b11, l12, b15, v6, v9, v13, J3, H, hq21, hσ, hL17, S, h7, h10, h14⟩
 have hI := hI.trans hL17
 have hG := hG.mono hL17
 rw [hσ.eq]
 rw [rr_repeats.l0] at H
 refine bk <| sr <| mv (.int .i64 0) rfl <| sq <| sr <| mv (pt bx0) rfl ?_
 obtain ⟨y22, hy23, H⟩ := obx H
 refine g rfl (cl fb83 (@rr_peek.ok q16 (T_regex_reader.mk l12 b15) _ _ _ _ _ _ hG (S.sel 3 [2, 0, 1] rfl) h14 hy23) rfl ?_)
 rintro _ w ⟨y22_1v0, J24, hJ25, rfl, y22_1h0, S⟩
 have h7 := h7.mono hJ25
 have h10 := h10.mono hJ25
 have hI := hI.trans hJ25
 have hL17 := hL17.trans hJ25
 have hG := hG.mono hJ25
 refine u rfl (x_fld tf124_0 tsc21 rfl rfl) <| bk <| sr <| u rfl (x_bin rfl rfl rfl) <| mv (.bool (y22.1.c == 42)) rfl ?_
 by_cases cc26 : y22.1.c = 42
 ·rw [if_pos cc26] at H
  refine cT rfl (eqT cc26) <| rg <| mv (.int .i64 7) rfl <| sq <| FW.anew [(0, pt bx0), (3, pt b1), (4, pt b2), (5, .int .i64 7)] ⟨rfl, rfl, rfl, rfl, trivial⟩ fun σ => rg <| mv (pt bx0) rfl ?_
  obtain ⟨y27, hy28, H⟩ := obx H
  refine g rfl (cl fb115 (@rr_next.ok q16 y22.2 _ _ _ _ _ _ hG S y22_1h0 hy28) rfl ?_)
  rintro _ w ⟨y27_1v0, J29, hJ30, rfl, y27_1h0, S⟩
  have h7 := h7.mono hJ30
  have h10 := h10.mono hJ30
  have hL17 := hL17.trans hJ30
  refine rg <| mv (.int .i64 7) rfl <| u rfl (x_ldA tag121 rfl (S.loadW 2 rfl) rfl) <| g rfl (o_bsl tsl118 tz121 rfl rfl rfl rfl (.agg PC.nil) rfl S fun b31 w S => ?_)
  obtain ⟨J32, hJ34, S, h33⟩ := S.freeze (r := R_regex_piece) (l := [(T_pc.mk n4 l5 l8 b11)]) 0 rfl ⟨[.int .i64 n4, v6, v9, .bool b11], _, rfl, (R_regex_piece.mk (x := (T_pc.mk n4 l5 l8 b11)) h7 h10), rfl⟩ rfl rfl
  have y27_1h0 := y27_1h0.mono hJ34
  have hL17 := hL17.trans hJ34
  refine u rfl (x_bld tz121 tpl121 rfl (.one rfl (.one h33.one PC.nil)) rfl) <| g rfl (o_stA tag121 S 3 rfl rfl rfl rfl (c1 rfl (c1 h33.one (c1 rfl (c1 rfl c0)))) rfl fun w S => ⟨q16, Nat.le_refl _, 7, [(T_pc.mk n4 l5 l8 b11)], [], false, y27.2.rest, y27.2.bad, (.slice (some ⟨b31, 0, none⟩) 1 1), (.slice none 0 0), y27_1v0, J32, H, (Nat.le_of_succ_le hq21), ⟨rfl, rfl, rfl, trivial⟩, hL17, (S.sel 4 [2, 3, 1] rfl), h33, (SlR.nil _ _), y27_1h0⟩)
 rw [if_neg cc26] at H
 refine cF rfl (eqF cc26) <| sr <| u rfl (x_bin rfl rfl rfl) <| mv (.bool (y22.1.c == 43)) rfl ?_
 by_cases cc35 : y22.1.c = 43
 ·rw [if_pos cc35] at H
  refine cT rfl (eqT cc35) <| FW.anew [(0, pt bx0), (3, pt b1), (4, pt b2)] ⟨rfl, rfl, rfl, trivial⟩ fun σ => rg <| mv (.int .i64 8) rfl <| sr <| mv (pt bx0) rfl ?_
  obtain ⟨y36, hy37, H⟩ := obx H
  refine g rfl (cl fb115 (@rr_next.ok q16 y22.2 _ _ _ _ _ _ hG S y22_1h0 hy37) rfl ?_)
  rintro _ w ⟨y36_1v0, J38, hJ39, rfl, y36_1h0, S⟩
  have h7 := h7.mono hJ39
  have h10 := h10.mono hJ39
  have hL17 := hL17.trans hJ39
  refine rg <| mv (.int .i64 8) rfl <| u rfl (x_ldA tag121 rfl (S.loadW 2 rfl) rfl) <| g rfl (o_bsl tsl118 tz121 rfl rfl rfl rfl (.agg PC.nil) rfl S fun b40 w S => ?_)
  obtain ⟨J41, hJ43, S, h42⟩ := S.freeze (r := R_regex_piece) (l := [(T_pc.mk n4 l5 l8 b11)]) 0 rfl ⟨[.int .i64 n4, v6, v9, .bool b11], _, rfl, (R_regex_piece.mk (x := (T_pc.mk n4 l5 l8 b11)) h7 h10), rfl⟩ rfl rfl
  have y36_1h0 := y36_1h0.mono hJ43
  have hL17 := hL17.trans hJ43
  refine u rfl (x_bld tz121 tpl121 rfl (.one rfl (.one h42.one PC.nil)) rfl) <| g rfl (o_stA tag121 S 3 rfl rfl rfl rfl (c1 rfl (c1 h42.one (c1 rfl (c1 rfl c0)))) rfl fun w S => ⟨q16, Nat.le_refl _, 8, [(T_pc.mk n4 l5 l8 b11)], [], false, y36.2.rest, y36.2.bad, (.slice (some ⟨b40, 0, none⟩) 1 1), (.slice none 0 0), y36_1v0, J41, H, (Nat.le_of_succ_le hq21), ⟨rfl, rfl, rfl, trivial⟩, hL17, (S.sel 4 [2, 3, 1] rfl), h42, (SlR.nil _ _), y36_1h0⟩)
 rw [if_neg cc35] at H
 refine cF rfl (eqF cc35) <| sq <| FW.anew [(0, pt bx0), (3, pt b1), (4, pt b2), (8, .int .i32 y22.1.c)] ⟨rfl, rfl, rfl, rfl, trivial⟩ fun σ => rg <| u rfl (x_bin rfl rfl rfl) <| mv (.bool (y22.1.c == 63)) rfl ?_
 by_cases cc44 : y22.1.c = 63
 ·rw [if_pos cc44] at H
  refine cT rfl (eqT cc44) <| rg <| mv (.int .i64 9) rfl <| sr <| mv (pt bx0) rfl ?_
  obtain ⟨y45, hy46, H⟩ := obx H
  refine g rfl (cl fb115 (@rr_next.ok q16 y22.2 _ _ _ _ _ _ hG S y22_1h0 hy46) rfl ?_)
  rintro _ w ⟨y45_1v0, J47, hJ48, rfl, y45_1h0, S⟩
  have h7 := h7.mono hJ48
  have h10 := h10.mono hJ48
  have hL17 := hL17.trans hJ48
  refine rg <| mv (.int .i64 9) rfl <| u rfl (x_ldA tag121 rfl (S.loadW 2 rfl) rfl) <| g rfl (o_bsl tsl118 tz121 rfl rfl rfl rfl (.agg PC.nil) rfl S fun b49 w S => ?_)
  obtain ⟨J50, hJ52, S, h51⟩ := S.freeze (r := R_regex_piece) (l := [(T_pc.mk n4 l5 l8 b11)]) 0 rfl ⟨[.int .i64 n4, v6, v9, .bool b11], _, rfl, (R_regex_piece.mk (x := (T_pc.mk n4 l5 l8 b11)) h7 h10), rfl⟩ rfl rfl
  have y45_1h0 := y45_1h0.mono hJ52
  have hL17 := hL17.trans hJ52
  refine u rfl (x_bld tz121 tpl121 rfl (.one rfl (.one h51.one PC.nil)) rfl) <| g rfl (o_stA tag121 S 3 rfl rfl rfl rfl (c1 rfl (c1 h51.one (c1 rfl (c1 rfl c0)))) rfl fun w S => ⟨q16, Nat.le_refl _, 9, [(T_pc.mk n4 l5 l8 b11)], [], false, y45.2.rest, y45.2.bad, (.slice (some ⟨b49, 0, none⟩) 1 1), (.slice none 0 0), y45_1v0, J50, H, (Nat.le_of_succ_le hq21), ⟨rfl, rfl, rfl, trivial⟩, hL17, (S.sel 4 [2, 3, 1] rfl), h51, (SlR.nil _ _), y45_1h0⟩)
 rw [if_neg cc44] at H
 refine cF rfl (eqF cc44) <| sr <| u rfl (x_ldA tag121 rfl (S.loadW 2 rfl) rfl) <| g rfl (o_stA tag121 S 1 rfl rfl rfl rfl (c1 rfl (c1 h7.one (c1 h10.one (c1 rfl c0)))) rfl fun w S => rt ?_)
 obtain rfl := si H
 obtain rfl := si HO19
 exact ⟨_, ⟨_, _, _, rfl, rfl, ldA tag121 (S.loadW 1 rfl) rfl, rfl⟩, ⟨v6, v9, y22_1v0, J24, hI, rfl, h7, h10, y22_1h0, (S.sel 3 [0] rfl)⟩⟩
end Go.Proofs.YtafnenafbognkaaGreatDoor
namespace Go.Proofs.YtafnenafbognkaaGreatDoor
open Sp
set_option maxRecDepth 100000
set_option maxHeartbeats 4000000
def rr_set.l1 : Nat → (List T_sg) → Bool → Option ((List T_sg) × Bool)
  | 0, _, _ => none
  | k + 1, l37, b40 => ((rr_peek.f k (T_regex_reader.mk l37 b40)).bind fun y52 => (if y52.1.c = 44 then ((rr_next.f k y52.2).bind fun y57 => (rr_set.l1 k y57.2.rest y57.2.bad)) else (some (y52.2.rest, y52.2.bad))))
def rr_set.l0 : Nat → Bool → (List T_sg) → Bool → (List T_regex_span) → Option (Sum (T_pc × T_regex_reader) Unit)
  | 0, _, _, _, _ => none
  | k + 1, b12, l23, b26, l27 => ((rr_set.l1 k l23 b26).bind fun (l47, b50) => ((rr_next.f k (T_regex_reader.mk l47 b50)).bind fun y61 => (if y61.1.digits = true then (if (y61.2.rest.length : Int) > 0 then ((lat y61.2.rest 0).bind fun y69 => (((if y69.c = 45 then ((rr_next.f k y61.2).bind fun y88 => (if (y88.2.rest.length : Int) = 0 then (some (.inl ((T_pc.mk 4 [] l27 b12), (T_regex_reader.mk y88.2.rest true)))) else ((lat y88.2.rest 0).bind fun y93 => (if y93.digits = true then ((rr_next.f k y88.2).bind fun y101 => (some (.inr (y101.1.c, y101.1.n, y101.1.digits, y101.2.rest, y101.2.bad)))) else (some (.inl ((T_pc.mk 4 [] l27 b12), (T_regex_reader.mk y88.2.rest true)))))))) else (some (.inr (y61.1.c, y61.1.n, y61.1.digits, y61.2.rest, y61.2.bad)))) : Option (Sum (T_pc × T_regex_reader) (Int × Int × Bool × (List T_sg) × Bool))).bind fun o => match o with | .inl r => some (.inl r) | .inr (n77, n78, b79, l80, b83) => (if b83 = true then ((app 8 l27 [(T_regex_span.mk y61.1.n n78)]).bind fun l110 => (rr_set.l0 k b12 l80 true l110)) else ((app 8 l27 [(T_regex_span.mk y61.1.n n78)]).bind fun l120 => (rr_set.l0 k b12 l80 (decide (y61.1.n > n78)) l120))))) else (if y61.2.bad = true then ((app 8 l27 [(T_regex_span.mk y61.1.n y61.1.n)]).bind fun l131 => (rr_set.l0 k b12 y61.2.rest true l131)) else ((app 8 l27 [(T_regex_span.mk y61.1.n y61.1.n)]).bind fun l141 => (rr_set.l0 k b12 y61.2.rest (decide (y61.1.n > y61.1.n)) l141)))) else (if y61.2.bad = true then (some (.inl ((T_pc.mk 4 [] l27 b12), (T_regex_reader.mk y61.2.rest true)))) else (if y61.1.c = 93 then (some (.inl ((T_pc.mk 4 [] l27 b12), (T_regex_reader.mk y61.2.rest ((l27.length : Int) == 0))))) else (some (.inl ((T_pc.mk 4 [] l27 b12), (T_regex_reader.mk y61.2.rest true)))))))))
def rr_set.f (k : Nat) (x0 : T_regex_reader) : Option (T_pc × T_regex_reader) := ((rr_peek.f k x0).bind fun y3 => ((if y3.1.c = 94 then ((rr_next.f k y3.2).bind fun y17 => (some (y17.2.rest, y17.2.bad, true))) else (some (y3.2.rest, y3.2.bad, false))).bind fun (l8, b11, b12) => ((rr_set.l0 k b12 l8 b11 []).bind fun o => match o with | .inl r => some r | .inr _ => none)))
abbrev rr_set.C (k : Nat) : Prop := ∀ {x0 : T_regex_reader} {x0v0 : Value} {bx0 : Nat} {F : List It} {I : IMem} {w : World} {r : T_pc × T_regex_reader}, Glob I → Own I w (.bk bx0 117 [x0v0, .bool x0.bad] :: F) → SlR R_regex_sign I x0v0 x0.rest → rr_set.f k x0 = some r →
    Calls Tryz.prog 149 #[pt bx0] w fun e w' => ∃ v, e = .returned v ∧ ∃ (y_0v1 : Value) (y_0v2 : Value) (y_1v0 : Value) (J : IMem), I.le J ∧ v = .agg #[.int .i64 r.1.kind, y_0v1, y_0v2, .bool r.1.not] ∧ SlR R_regex_piece J y_0v1 r.1.parts ∧ SlR R_regex_span J y_0v2 r.1.spans ∧ SlR R_regex_sign J y_1v0 r.2.rest ∧ Own J w' (.bk bx0 117 [y_1v0, .bool r.2.bad] :: F)
theorem rr_set.ok (k : Nat) : rr_set.C k := by
 intro x0 x0v0 bx0 F I w r hG S x0h0 H
 have hI := ilr I
 rw [rr_set.f] at H
 refine Calls.ofFW (args := [pt bx0]) Tryz.func149 rfl rfl <| sr <| g rfl (o_all tz121 S fun b1 w S => sq (rg (u rfl (x_bld tz121 tpl121 rfl (.one rfl PC.nil) rfl) (g rfl (o_all tz121 S fun b2 w S => g rfl (o_stA tag121 S 0 rfl rfl rfl rfl (c1 rfl (c1 rfl (c1 rfl (c1 rfl c0)))) rfl fun w S => sq (sq (rg (mv (pt bx0) rfl ?_)))))))))
 obtain ⟨y3, hy4, H⟩ := obx H
 refine g rfl (cl fb83 (@rr_peek.ok k x0 _ _ _ _ _ _ hG (S.sel 3 [2, 0, 1] rfl) x0h0 hy4) rfl ?_)
 rintro _ w ⟨y3_1v0, J5, hJ6, rfl, y3_1h0, S⟩
 have hI := hI.trans hJ6
 have hG := hG.mono hJ6
 refine u rfl (x_fld tf124_0 tsc21 rfl rfl) <| u rfl (x_bin rfl rfl rfl) ?_
 obtain ⟨o13, H, HO14⟩ := obx H
 have hL15 := ilr J5
 refine FW.cutN (fun σ w => ∃ (l8 : (List T_sg)) (b11 : Bool) (b12 : Bool) (v9 : Value) (J7 : IMem), (l8, b11, b12) = o13 ∧ Has σ [(0, pt bx0), (2, pt b1), (3, pt b2)] ∧ J5.le J7 ∧ Own J7 w (.bk bx0 117 [v9, .bool b11] :: .bk b2 121 [.int .i64 4, (.slice none 0 0), (.slice none 0 0), .bool b12] :: .bk b1 121 [.int .i64 0, (.slice none 0 0), (.slice none 0 0), .bool false] :: F) ∧ SlR R_regex_sign J7 v9 l8) ?_ ?_
 ·by_cases cc16 : y3.1.c = 94
  ·rw [if_pos cc16] at H
   refine cT rfl (eqT cc16) <| sq <| FW.anew [(0, pt bx0), (2, pt b1), (3, pt b2)] ⟨rfl, rfl, rfl, trivial⟩ fun σ => rg <| mv (pt bx0) rfl ?_
   obtain ⟨y17, hy18, H⟩ := obx H
   refine g rfl (cl fb115 (@rr_next.ok k y3.2 _ _ _ _ _ _ hG S y3_1h0 hy18) rfl ?_)
   rintro _ w ⟨y17_1v0, J19, hJ20, rfl, y17_1h0, S⟩
   have hL15 := hL15.trans hJ20
   refine rg <| u rfl (x_fa tf121_3 rfl) <| g rfl (o_st tone4 S 1 rfl rfl rfl rfl fun w S => ⟨y17.2.rest, y17.2.bad, true, y17_1v0, J19, (si H), ⟨rfl, rfl, rfl, trivial⟩, hL15, S, y17_1h0⟩)
  rw [if_neg cc16] at H
  refine cF rfl (eqF cc16) <| sk ⟨y3.2.rest, y3.2.bad, false, y3_1v0, J5, (si H), ⟨rfl, rfl, rfl, trivial⟩, hL15, S, y3_1h0⟩
 rintro σ w ⟨l8, b11, b12, v9, J7, ho, hσ, hL15, S, h10⟩
 subst ho
 have H := HO14
 try dsimp only at H
 have hI := hI.trans hL15
 have hG := hG.mono hL15
 rw [hσ.eq]
 refine bk ?_
 have S := S.nil_tv 167 2
 obtain ⟨o32, hl34, HO33⟩ := obx H
 refine FW.loop k (FL.ind (fun q σ w => ∃ (l23 : (List T_sg)) (b26 : Bool) (l27 : (List T_regex_span)) (v24 : Value) (v28 : Value) (J22 : IMem), rr_set.l0 q b12 l23 b26 l27 = some o32 ∧ q ≤ k ∧ Has σ [(0, pt bx0), (2, pt b1), (3, pt b2)] ∧ J7.le J22 ∧ Own J22 w (.tv v28 167 2 :: .bk bx0 117 [v24, .bool b26] :: .bk b2 121 [.int .i64 4, (.slice none 0 0), v28, .bool b12] :: .bk b1 121 [.int .i64 0, (.slice none 0 0), (.slice none 0 0), .bool false] :: F) ∧ SlR R_regex_sign J22 v24 l23 ∧ SlR R_regex_span J22 v28 l27) ?_ ?_ k k _ _ (Nat.le_refl _) ⟨l8, b11, [], v9, (.slice none 0 0), J7, hl34, Nat.le_refl _, ⟨rfl, rfl, rfl, trivial⟩, (ilr _), S, h10, (SlR.nil _ _)⟩)
 ·rintro σ w ⟨l23, b26, l27, v24, v28, J22, H, _⟩; cases H
 rintro q30 σ w ⟨l23, b26, l27, v24, v28, J22, H, hq35, hσ, hL31, S, h25, h29⟩
 have hI := hI.trans hL31
 have hG := hG.mono hL31
 rw [hσ.eq]
 rw [rr_set.l0] at H
 refine bk <| sq <| bk ?_
 obtain ⟨o43, hl45, HO44⟩ := obx H
 refine FW.cutX 2 (fun σ w => ∃ (l47 : (List T_sg)) (b50 : Bool) (v48 : Value) (J46 : IMem), (l47, b50) = o43 ∧ Has σ [(0, pt bx0), (2, pt b1), (3, pt b2)] ∧ J22.le J46 ∧ Own J46 w (.tv v28 167 2 :: .bk bx0 117 [v48, .bool b50] :: .bk b2 121 [.int .i64 4, (.slice none 0 0), v28, .bool b12] :: .bk b1 121 [.int .i64 0, (.slice none 0 0), (.slice none 0 0), .bool false] :: F) ∧ SlR R_regex_sign J46 v48 l47) ?_ ?_
 ·refine FW.loop q30 (FL.ind (fun q σ w => ∃ (l37 : (List T_sg)) (b40 : Bool) (v38 : Value) (J36 : IMem), rr_set.l1 q l37 b40 = some o43 ∧ q ≤ q30 ∧ Has σ [(0, pt bx0), (2, pt b1), (3, pt b2)] ∧ J22.le J36 ∧ Own J36 w (.tv v28 167 2 :: .bk bx0 117 [v38, .bool b40] :: .bk b2 121 [.int .i64 4, (.slice none 0 0), v28, .bool b12] :: .bk b1 121 [.int .i64 0, (.slice none 0 0), (.slice none 0 0), .bool false] :: F) ∧ SlR R_regex_sign J36 v38 l37) ?_ ?_ q30 q30 _ _ (Nat.le_refl _) ⟨l23, b26, v24, J22, hl45, Nat.le_refl _, ⟨rfl, rfl, rfl, trivial⟩, (ilr _), S, h25⟩)
  ·rintro σ w ⟨l37, b40, v38, J36, H, _⟩; cases H
  rintro q41 σ w ⟨l37, b40, v38, J36, H, hq51, hσ, hL42, S, h39⟩
  have hG := hG.mono hL42
  rw [hσ.eq]
  rw [rr_set.l1] at H
  refine sq <| sr <| mv (pt bx0) rfl ?_
  obtain ⟨y52, hy53, H⟩ := obx H
  refine g rfl (cl fb83 (@rr_peek.ok q41 (T_regex_reader.mk l37 b40) _ _ _ _ _ _ hG (S.sel 4 [1, 0, 2, 3] rfl) h39 hy53) rfl ?_)
  rintro _ w ⟨y52_1v0, J54, hJ55, rfl, y52_1h0, S⟩
  have hL42 := hL42.trans hJ55
  have hG := hG.mono hJ55
  refine u rfl (x_fld tf124_0 tsc21 rfl rfl) <| u rfl (x_bin rfl rfl rfl) ?_
  by_cases cc56 : y52.1.c = 44
  ·rw [if_pos cc56] at H
   refine cT rfl (eqT cc56) <| sk <| bk <| rg <| mv (pt bx0) rfl ?_
   obtain ⟨y57, hy58, H⟩ := obx H
   refine g rfl (cl fb115 (@rr_next.ok q41 y52.2 _ _ _ _ _ _ hG S y52_1h0 hy58) rfl ?_)
   rintro _ w ⟨y57_1v0, J59, hJ60, rfl, y57_1h0, S⟩
   have hL42 := hL42.trans hJ60
   exact ⟨q41, Nat.le_refl _, y57.2.rest, y57.2.bad, y57_1v0, J59, H, (Nat.le_of_succ_le hq51), ⟨rfl, rfl, rfl, trivial⟩, hL42, (S.sel 4 [1, 0, 2, 3] rfl), y57_1h0⟩
  rw [if_neg cc56] at H
  refine cF rfl (eqF cc56) <| ex ⟨y52.2.rest, y52.2.bad, y52_1v0, J54, (si H), ⟨rfl, rfl, rfl, trivial⟩, hL42, (S.sel 4 [1, 0, 2, 3] rfl), y52_1h0⟩
 rintro σ w ⟨l47, b50, v48, J46, ho, hσ, hL42, S, h49⟩
 subst ho
 have H := HO44
 try dsimp only at H
 have h29 := h29.mono hL42
 have hI := hI.trans hL42
 have hL31 := hL31.trans hL42
 have hG := hG.mono hL42
 rw [hσ.eq]
 refine sr <| mv (pt bx0) rfl ?_
 obtain ⟨y61, hy62, H⟩ := obx H
 refine g rfl (cl fb115 (@rr_next.ok q30 (T_regex_reader.mk l47 b50) _ _ _ _ _ _ hG (S.sel 4 [1, 0, 2, 3] rfl) h49 hy62) rfl ?_)
 rintro _ w ⟨y61_1v0, J63, hJ64, rfl, y61_1h0, S⟩
 have h29 := h29.mono hJ64
 have hI := hI.trans hJ64
 have hL31 := hL31.trans hJ64
 have hG := hG.mono hJ64
 refine g rfl (o_all tz124 S fun b65 w S => g rfl (o_stA tag124 S 0 rfl rfl rfl rfl (c1 rfl (c1 rfl (c1 rfl c0))) rfl fun w S => sq (sq (rg (u rfl (x_fa tf124_2 rfl) (u rfl (x_ld tsc4 rfl (S.load 0 rfl 2 rfl)) (u rfl (x_not' rfl) ?_)))))))
 by_cases cc66 : y61.1.digits = true
 ·rw [if_pos cc66] at H
  refine cF rfl (noF cc66) <| sk <| sq <| FW.anew [(0, pt bx0), (2, pt b1), (3, pt b2), (4, pt b65)] ⟨rfl, rfl, rfl, rfl, trivial⟩ fun σ => rg <| u rfl (x_ldA tag124 rfl (S.loadW 0 rfl) rfl) <| g rfl (o_all tz124 S fun b67 w S => g rfl (o_stA tag124 S 0 rfl rfl rfl rfl (c1 rfl (c1 rfl (c1 rfl c0))) rfl fun w S => sq (sq (rg (mv (pt bx0) rfl (u rfl (x_nk rfl) (u rfl (x_fa tf117_0 rfl) (u rfl (x_ld tsc112 rfl (S.load 2 rfl 0 rfl)) (u rfl (x_lenD (r := R_regex_sign) tsl112 y61_1h0) (u rfl (x_bin rfl rfl rfl) (mv (.bool (decide ((y61.2.rest.length : Int) > 0))) rfl ?_)))))))))))
  by_cases cc68 : (y61.2.rest.length : Int) > 0
  ·rw [if_pos cc68] at H
   refine gu rfl rfl rfl (deT cc68) (x_movV (v := pt bx0) rfl) <| gu rfl rfl rfl (deT cc68) (x_nk rfl) <| gu rfl rfl rfl (deT cc68) (x_fa tf117_0 rfl) <| gu rfl rfl rfl (deT cc68) (x_ld tsc112 rfl (S.load 2 rfl 0 rfl)) ?_
   obtain ⟨y69, h70, H⟩ := obx H
   refine OK.gt rfl rfl rfl (deT cc68) (o_ia (r := R_regex_sign) tsl112 rfl rfl y61_1h0 rfl h70 fun b71 o72 cs73 hr74 hc75 => ?_)
   obtain rfl := hr74
   refine gu rfl rfl rfl (deT cc68) (x_fa tf124_0 rfl) <| gu rfl rfl rfl (deT cc68) (x_ld tsc21 rfl (S.cell _ _ _ (hc75 0 _ rfl))) <| gu rfl rfl rfl (deT cc68) (x_bin rfl rfl rfl) <| u rfl (x_pickTV (v := .bool (y69.c == 45)) rfl (deT cc68) rfl) ?_
   obtain ⟨o84, H, HO85⟩ := obx H
   have hL86 := ilr J63
   refine FW.cutN (fun σ w => ∃ (n77 : Int) (n78 : Int) (b79 : Bool) (l80 : (List T_sg)) (b83 : Bool) (v81 : Value) (J76 : IMem), (.inr (n77, n78, b79, l80, b83)) = o84 ∧ Has σ [(0, pt bx0), (2, pt b1), (3, pt b2), (4, pt b65), (5, pt b67)] ∧ J63.le J76 ∧ Own J76 w (.bk b67 124 [.int .i32 n77, .int .u32 n78, .bool b79] :: .bk b65 124 [.int .i32 y61.1.c, .int .u32 y61.1.n, .bool y61.1.digits] :: .bk bx0 117 [v81, .bool b83] :: .tv v28 167 2 :: .bk b2 121 [.int .i64 4, (.slice none 0 0), v28, .bool b12] :: .bk b1 121 [.int .i64 0, (.slice none 0 0), (.slice none 0 0), .bool false] :: F) ∧ SlR R_regex_sign J76 v81 l80) ?_ ?_
   ·by_cases cc87 : y69.c = 45
    ·rw [if_pos cc87] at H
     refine cT rfl (eqT cc87) <| sq <| FW.anew [(0, pt bx0), (2, pt b1), (3, pt b2), (4, pt b65), (5, pt b67)] ⟨rfl, rfl, rfl, rfl, rfl, trivial⟩ fun σ => rg <| mv (pt bx0) rfl ?_
     obtain ⟨y88, hy89, H⟩ := obx H
     refine g rfl (cl fb115 (@rr_next.ok q30 y61.2 _ _ _ _ _ _ hG (S.sel 6 [2, 0, 1, 3, 4, 5] rfl) y61_1h0 hy89) rfl ?_)
     rintro _ w ⟨y88_1v0, J90, hJ91, rfl, y88_1h0, S⟩
     have h29 := h29.mono hJ91
     have hI := hI.trans hJ91
     have hL86 := hL86.trans hJ91
     have hG := hG.mono hJ91
     refine sq <| sr <| mv (pt bx0) rfl <| u rfl (x_nk rfl) <| u rfl (x_fa tf117_0 rfl) <| u rfl (x_ld tsc112 rfl (S.load 0 rfl 0 rfl)) <| u rfl (x_lenD (r := R_regex_sign) tsl112 y88_1h0) <| u rfl (x_bin rfl rfl rfl) <| mv (.bool ((y88.2.rest.length : Int) == 0)) rfl ?_
     by_cases cc92 : (y88.2.rest.length : Int) = 0
     ·rw [if_pos cc92] at H
      refine gn rfl rfl rfl (eqT cc92) <| gn rfl rfl rfl (eqT cc92) <| gn rfl rfl rfl (eqT cc92) <| gn rfl rfl rfl (eqT cc92) <| gn rfl rfl rfl (eqT cc92) <| gn rfl rfl rfl (eqT cc92) <| gn rfl rfl rfl (eqT cc92) <| gn rfl rfl rfl (eqT cc92) <| u rfl (x_pickTV (v := .bool true) rfl (eqT cc92) rfl) <| cT rfl rfl <| sq <| FW.anew [(0, pt bx0), (2, pt b1), (3, pt b2)] ⟨rfl, rfl, rfl, trivial⟩ fun σ => rg <| mv (pt bx0) rfl <| u rfl (x_nk rfl) <| u rfl (x_fa tf117_1 rfl) <| g rfl (o_st tone4 S 0 rfl rfl rfl rfl fun w S => sq (rg (u rfl (x_ldA tag121 rfl (S.loadW 4 rfl) rfl) (g rfl (o_stA tag121 S 5 rfl rfl rfl rfl (c1 rfl (c1 rfl (c1 h29.one (c1 rfl c0)))) rfl fun w S => rt ?_)))))
      obtain rfl := si H
      obtain rfl := si HO85
      obtain rfl := si HO33
      exact ⟨_, ⟨_, _, _, rfl, rfl, ldA tag121 (S.loadW 5 rfl) rfl, rfl⟩, ⟨(.slice none 0 0), v28, y88_1v0, J90, hI, rfl, (SlR.nil _ _), h29, y88_1h0, (S.sel 6 [0] rfl)⟩⟩
     rw [if_neg cc92] at H
     refine gu rfl rfl rfl (eqF cc92) (x_movV (v := pt bx0) rfl) <| gu rfl rfl rfl (eqF cc92) (x_nk rfl) <| gu rfl rfl rfl (eqF cc92) (x_fa tf117_0 rfl) <| gu rfl rfl rfl (eqF cc92) (x_ld tsc112 rfl (S.load 0 rfl 0 rfl)) ?_
     obtain ⟨y93, h94, H⟩ := obx H
     refine OK.gt rfl rfl rfl (eqF cc92) (o_ia (r := R_regex_sign) tsl112 rfl rfl y88_1h0 rfl h94 fun b95 o96 cs97 hr98 hc99 => ?_)
     obtain rfl := hr98
     refine gu rfl rfl rfl (eqF cc92) (x_fa tf124_2 rfl) <| gu rfl rfl rfl (eqF cc92) (x_ld tsc4 rfl (S.cell _ _ _ (hc99 2 _ rfl))) <| gu rfl rfl rfl (eqF cc92) (x_not' rfl) <| u rfl (x_pickFV (v := .bool (!y93.digits)) rfl (eqF cc92) rfl) ?_
     by_cases cc100 : y93.digits = true
     ·rw [if_pos cc100] at H
      refine cF rfl (noF cc100) <| sk <| FW.anew [(0, pt bx0), (2, pt b1), (3, pt b2), (4, pt b65), (5, pt b67)] ⟨rfl, rfl, rfl, rfl, rfl, trivial⟩ fun σ => rg <| mv (pt bx0) rfl ?_
      obtain ⟨y101, hy102, H⟩ := obx H
      refine g rfl (cl fb115 (@rr_next.ok q30 y88.2 _ _ _ _ _ _ hG S y88_1h0 hy102) rfl ?_)
      rintro _ w ⟨y101_1v0, J103, hJ104, rfl, y101_1h0, S⟩
      have hL86 := hL86.trans hJ104
      refine g rfl (o_stA tag124 S 1 rfl rfl rfl rfl (c1 rfl (c1 rfl (c1 rfl c0))) rfl fun w S => ⟨y101.1.c, y101.1.n, y101.1.digits, y101.2.rest, y101.2.bad, y101_1v0, J103, (si H), ⟨rfl, rfl, rfl, rfl, rfl, trivial⟩, hL86, (S.sel 6 [1, 2, 0, 3, 4, 5] rfl), y101_1h0⟩)
     rw [if_neg cc100] at H
     refine cT rfl (noT (vaF cc100)) <| sq <| FW.anew [(0, pt bx0), (2, pt b1), (3, pt b2)] ⟨rfl, rfl, rfl, trivial⟩ fun σ => rg <| mv (pt bx0) rfl <| u rfl (x_nk rfl) <| u rfl (x_fa tf117_1 rfl) <| g rfl (o_st tone4 S 0 rfl rfl rfl rfl fun w S => sq (rg (u rfl (x_ldA tag121 rfl (S.loadW 4 rfl) rfl) (g rfl (o_stA tag121 S 5 rfl rfl rfl rfl (c1 rfl (c1 rfl (c1 h29.one (c1 rfl c0)))) rfl fun w S => rt ?_)))))
     obtain rfl := si H
     obtain rfl := si HO85
     obtain rfl := si HO33
     exact ⟨_, ⟨_, _, _, rfl, rfl, ldA tag121 (S.loadW 5 rfl) rfl, rfl⟩, ⟨(.slice none 0 0), v28, y88_1v0, J90, hI, rfl, (SlR.nil _ _), h29, y88_1h0, (S.sel 6 [0] rfl)⟩⟩
    rw [if_neg cc87] at H
    refine cF rfl (eqF cc87) <| sk ⟨y61.1.c, y61.1.n, y61.1.digits, y61.2.rest, y61.2.bad, y61_1v0, J63, (si H), ⟨rfl, rfl, rfl, rfl, rfl, trivial⟩, hL86, S, y61_1h0⟩
   rintro σ w ⟨n77, n78, b79, l80, b83, v81, J76, ho, hσ, hL86, S, h82⟩
   subst ho
   have H := HO85
   try dsimp only at H
   have h29 := h29.mono hL86
   have hL31 := hL31.trans hL86
   rw [hσ.eq]
   refine sr <| mv (pt bx0) rfl <| mv (pt bx0) rfl <| u rfl (x_nk rfl) <| u rfl (x_fa tf117_1 rfl) <| u rfl (x_ld tsc4 rfl (S.load 2 rfl 1 rfl)) <| mv (.bool b83) rfl ?_
   by_cases cc105 : b83 = true
   ·rw [if_pos cc105] at H
    refine gn rfl rfl rfl cc105 <| gn rfl rfl rfl cc105 <| gn rfl rfl rfl cc105 <| gn rfl rfl rfl cc105 <| gn rfl rfl rfl cc105 <| u rfl (x_pickTV (v := .bool true) rfl cc105 rfl) <| u rfl (x_nk rfl) <| u rfl (x_fa tf117_1 rfl) <| g rfl (o_st tone4 S 2 rfl rfl rfl rfl fun w S => FW.anew [(0, pt bx0), (2, pt b1), (3, pt b2), (4, pt b65), (5, pt b67)] ⟨rfl, rfl, rfl, rfl, rfl, trivial⟩ fun σ => rg (u rfl (x_fa tf121_2 rfl) (u rfl (x_ld tsc119 rfl (S.load 4 rfl 2 rfl)) (u rfl (x_fa tf124_1 rfl) (u rfl (x_ld tsc23 rfl (S.load 1 rfl 1 rfl)) (u rfl (x_fa tf124_1 rfl) (u rfl (x_ld tsc23 rfl (S.load 0 rfl 1 rfl)) (u rfl (x_bld tz167 tpl167 rfl (.one rfl (.one rfl PC.nil)) rfl) (g rfl (o_bsl tsl119 tz167 rfl rfl rfl rfl (.agg PC.nil) rfl S fun b106 w S => ?_))))))))))
    obtain ⟨J107, hJ109, S, h108⟩ := S.freeze (r := R_regex_span) (l := [(T_regex_span.mk y61.1.n n78)]) 0 rfl ⟨[.int .u32 y61.1.n, .int .u32 n78], _, rfl, rfl, rfl⟩ rfl rfl
    have h29 := h29.mono hJ109
    have h82 := h82.mono hJ109
    have hL31 := hL31.trans hJ109
    obtain ⟨l110, h112, H⟩ := obx H
    refine g rfl (o_appD (r := R_regex_span) tsl119 rfl tz167 rfl rfl S 4 rfl rfl h29 h108 h112 fun v111 w J114 hJ115 S h113 => ?_)
    have h82 := h82.mono hJ115
    have hL31 := hL31.trans hJ115
    refine u rfl (x_fa tf121_2 rfl) <| g rfl (o_st tone119 S 5 rfl rfl rfl h113.one fun w S => ⟨q30, Nat.le_refl _, l80, true, l110, v81, v111, J114, H, (Nat.le_of_succ_le hq35), ⟨rfl, rfl, rfl, trivial⟩, hL31, (S.sel 7 [4, 3, 5, 6] rfl), h82, h113⟩)
   rw [if_neg cc105] at H
   refine gu rfl rfl rfl (vaF cc105) (x_fa tf124_1 rfl) <| gu rfl rfl rfl (vaF cc105) (x_ld tsc23 rfl (S.load 1 rfl 1 rfl)) <| gu rfl rfl rfl (vaF cc105) (x_fa tf124_1 rfl) <| gu rfl rfl rfl (vaF cc105) (x_ld tsc23 rfl (S.load 0 rfl 1 rfl)) <| gu rfl rfl rfl (vaF cc105) (x_bin rfl rfl rfl) <| u rfl (x_pickFV (v := .bool (decide (y61.1.n > n78))) rfl (vaF cc105) rfl) <| u rfl (x_nk rfl) <| u rfl (x_fa tf117_1 rfl) <| g rfl (o_st tone4 S 2 rfl rfl rfl rfl fun w S => FW.anew [(0, pt bx0), (2, pt b1), (3, pt b2), (4, pt b65), (5, pt b67)] ⟨rfl, rfl, rfl, rfl, rfl, trivial⟩ fun σ => rg (u rfl (x_fa tf121_2 rfl) (u rfl (x_ld tsc119 rfl (S.load 4 rfl 2 rfl)) (u rfl (x_fa tf124_1 rfl) (u rfl (x_ld tsc23 rfl (S.load 1 rfl 1 rfl)) (u rfl (x_fa tf124_1 rfl) (u rfl (x_ld tsc23 rfl (S.load 0 rfl 1 rfl)) (u rfl (x_bld tz167 tpl167 rfl (.one rfl (.one rfl PC.nil)) rfl) (g rfl (o_bsl tsl119 tz167 rfl rfl rfl rfl (.agg PC.nil) rfl S fun b116 w S => ?_))))))))))
   obtain ⟨J117, hJ119, S, h118⟩ := S.freeze (r := R_regex_span) (l := [(T_regex_span.mk y61.1.n n78)]) 0 rfl ⟨[.int .u32 y61.1.n, .int .u32 n78], _, rfl, rfl, rfl⟩ rfl rfl
   have h29 := h29.mono hJ119
   have h82 := h82.mono hJ119
   have hL31 := hL31.trans hJ119
   obtain ⟨l120, h122, H⟩ := obx H
   refine g rfl (o_appD (r := R_regex_span) tsl119 rfl tz167 rfl rfl S 4 rfl rfl h29 h118 h122 fun v121 w J124 hJ125 S h123 => ?_)
   have h82 := h82.mono hJ125
   have hL31 := hL31.trans hJ125
   refine u rfl (x_fa tf121_2 rfl) <| g rfl (o_st tone119 S 5 rfl rfl rfl h123.one fun w S => ⟨q30, Nat.le_refl _, l80, (decide (y61.1.n > n78)), l120, v81, v121, J124, H, (Nat.le_of_succ_le hq35), ⟨rfl, rfl, rfl, trivial⟩, hL31, (S.sel 7 [4, 3, 5, 6] rfl), h82, h123⟩)
  rw [if_neg cc68] at H
  refine gn rfl rfl rfl (deF cc68) <| gn rfl rfl rfl (deF cc68) <| gn rfl rfl rfl (deF cc68) <| gn rfl rfl rfl (deF cc68) <| gn rfl rfl rfl (deF cc68) <| gn rfl rfl rfl (deF cc68) <| gn rfl rfl rfl (deF cc68) <| gn rfl rfl rfl (deF cc68) <| u rfl (x_pickFV (v := .bool false) rfl (deF cc68) rfl) <| cF rfl rfl <| sk <| sq <| FW.anew [(0, pt bx0), (2, pt b1), (3, pt b2), (4, pt b65), (5, pt b67)] ⟨rfl, rfl, rfl, rfl, rfl, trivial⟩ fun σ => rg <| mv (pt bx0) rfl <| mv (pt bx0) rfl <| u rfl (x_nk rfl) <| u rfl (x_fa tf117_1 rfl) <| u rfl (x_ld tsc4 rfl (S.load 2 rfl 1 rfl)) <| mv (.bool y61.2.bad) rfl ?_
  by_cases cc126 : y61.2.bad = true
  ·rw [if_pos cc126] at H
   refine gn rfl rfl rfl cc126 <| gn rfl rfl rfl cc126 <| gn rfl rfl rfl cc126 <| gn rfl rfl rfl cc126 <| gn rfl rfl rfl cc126 <| u rfl (x_pickTV (v := .bool true) rfl cc126 rfl) <| u rfl (x_nk rfl) <| u rfl (x_fa tf117_1 rfl) <| g rfl (o_st tone4 S 2 rfl rfl rfl rfl fun w S => FW.anew [(0, pt bx0), (2, pt b1), (3, pt b2), (4, pt b65), (5, pt b67)] ⟨rfl, rfl, rfl, rfl, rfl, trivial⟩ fun σ => rg (u rfl (x_fa tf121_2 rfl) (u rfl (x_ld tsc119 rfl (S.load 4 rfl 2 rfl)) (u rfl (x_fa tf124_1 rfl) (u rfl (x_ld tsc23 rfl (S.load 1 rfl 1 rfl)) (u rfl (x_fa tf124_1 rfl) (u rfl (x_ld tsc23 rfl (S.load 0 rfl 1 rfl)) (u rfl (x_bld tz167 tpl167 rfl (.one rfl (.one rfl PC.nil)) rfl) (g rfl (o_bsl tsl119 tz167 rfl rfl rfl rfl (.agg PC.nil) rfl S fun b127 w S => ?_))))))))))
   obtain ⟨J128, hJ130, S, h129⟩ := S.freeze (r := R_regex_span) (l := [(T_regex_span.mk y61.1.n y61.1.n)]) 0 rfl ⟨[.int .u32 y61.1.n, .int .u32 y61.1.n], _, rfl, rfl, rfl⟩ rfl rfl
   have h29 := h29.mono hJ130
   have y61_1h0 := y61_1h0.mono hJ130
   have hL31 := hL31.trans hJ130
   obtain ⟨l131, h133, H⟩ := obx H
   refine g rfl (o_appD (r := R_regex_span) tsl119 rfl tz167 rfl rfl S 4 rfl rfl h29 h129 h133 fun v132 w J135 hJ136 S h134 => ?_)
   have y61_1h0 := y61_1h0.mono hJ136
   have hL31 := hL31.trans hJ136
   refine u rfl (x_fa tf121_2 rfl) <| g rfl (o_st tone119 S 5 rfl rfl rfl h134.one fun w S => ⟨q30, Nat.le_refl _, y61.2.rest, true, l131, y61_1v0, v132, J135, H, (Nat.le_of_succ_le hq35), ⟨rfl, rfl, rfl, trivial⟩, hL31, (S.sel 7 [4, 3, 5, 6] rfl), y61_1h0, h134⟩)
  rw [if_neg cc126] at H
  refine gu rfl rfl rfl (vaF cc126) (x_fa tf124_1 rfl) <| gu rfl rfl rfl (vaF cc126) (x_ld tsc23 rfl (S.load 1 rfl 1 rfl)) <| gu rfl rfl rfl (vaF cc126) (x_fa tf124_1 rfl) <| gu rfl rfl rfl (vaF cc126) (x_ld tsc23 rfl (S.load 0 rfl 1 rfl)) <| gu rfl rfl rfl (vaF cc126) (x_bin rfl rfl rfl) <| u rfl (x_pickFV (v := .bool (decide (y61.1.n > y61.1.n))) rfl (vaF cc126) rfl) <| u rfl (x_nk rfl) <| u rfl (x_fa tf117_1 rfl) <| g rfl (o_st tone4 S 2 rfl rfl rfl rfl fun w S => FW.anew [(0, pt bx0), (2, pt b1), (3, pt b2), (4, pt b65), (5, pt b67)] ⟨rfl, rfl, rfl, rfl, rfl, trivial⟩ fun σ => rg (u rfl (x_fa tf121_2 rfl) (u rfl (x_ld tsc119 rfl (S.load 4 rfl 2 rfl)) (u rfl (x_fa tf124_1 rfl) (u rfl (x_ld tsc23 rfl (S.load 1 rfl 1 rfl)) (u rfl (x_fa tf124_1 rfl) (u rfl (x_ld tsc23 rfl (S.load 0 rfl 1 rfl)) (u rfl (x_bld tz167 tpl167 rfl (.one rfl (.one rfl PC.nil)) rfl) (g rfl (o_bsl tsl119 tz167 rfl rfl rfl rfl (.agg PC.nil) rfl S fun b137 w S => ?_))))))))))
  obtain ⟨J138, hJ140, S, h139⟩ := S.freeze (r := R_regex_span) (l := [(T_regex_span.mk y61.1.n y61.1.n)]) 0 rfl ⟨[.int .u32 y61.1.n, .int .u32 y61.1.n], _, rfl, rfl, rfl⟩ rfl rfl
  have h29 := h29.mono hJ140
  have y61_1h0 := y61_1h0.mono hJ140
  have hL31 := hL31.trans hJ140
  obtain ⟨l141, h143, H⟩ := obx H
  refine g rfl (o_appD (r := R_regex_span) tsl119 rfl tz167 rfl rfl S 4 rfl rfl h29 h139 h143 fun v142 w J145 hJ146 S h144 => ?_)
  have y61_1h0 := y61_1h0.mono hJ146
  have hL31 := hL31.trans hJ146
  refine u rfl (x_fa tf121_2 rfl) <| g rfl (o_st tone119 S 5 rfl rfl rfl h144.one fun w S => ⟨q30, Nat.le_refl _, y61.2.rest, (decide (y61.1.n > y61.1.n)), l141, y61_1v0, v142, J145, H, (Nat.le_of_succ_le hq35), ⟨rfl, rfl, rfl, trivial⟩, hL31, (S.sel 7 [4, 3, 5, 6] rfl), y61_1h0, h144⟩)
 rw [if_neg cc66] at H
 refine cT rfl (noT (vaF cc66)) <| sq <| FW.anew [(0, pt bx0), (2, pt b1), (3, pt b2), (4, pt b65)] ⟨rfl, rfl, rfl, rfl, trivial⟩ fun σ => rg <| mv (pt bx0) rfl <| mv (pt bx0) rfl <| u rfl (x_nk rfl) <| u rfl (x_fa tf117_1 rfl) <| u rfl (x_ld tsc4 rfl (S.load 1 rfl 1 rfl)) <| mv (.bool y61.2.bad) rfl ?_
 by_cases cc147 : y61.2.bad = true
 ·rw [if_pos cc147] at H
  refine gn rfl rfl rfl cc147 <| gn rfl rfl rfl cc147 <| gn rfl rfl rfl cc147 <| u rfl (x_pickTV (v := .bool true) rfl cc147 rfl) <| mv (.bool true) rfl <| gn rfl rfl rfl rfl <| gn rfl rfl rfl rfl <| gn rfl rfl rfl rfl <| gn rfl rfl rfl rfl <| u rfl (x_pickTV (v := .bool true) rfl rfl rfl) <| u rfl (x_nk rfl) <| u rfl (x_fa tf117_1 rfl) <| g rfl (o_st tone4 S 1 rfl rfl rfl rfl fun w S => sq (FW.anew [(2, pt b1), (3, pt b2)] ⟨rfl, rfl, trivial⟩ fun σ => rg (u rfl (x_ldA tag121 rfl (S.loadW 3 rfl) rfl) (g rfl (o_stA tag121 S 4 rfl rfl rfl rfl (c1 rfl (c1 rfl (c1 h29.one (c1 rfl c0)))) rfl fun w S => rt ?_)))))
  obtain rfl := si H
  obtain rfl := si HO33
  exact ⟨_, ⟨_, _, _, rfl, rfl, ldA tag121 (S.loadW 4 rfl) rfl, rfl⟩, ⟨(.slice none 0 0), v28, y61_1v0, J63, hI, rfl, (SlR.nil _ _), h29, y61_1h0, (S.sel 5 [1] rfl)⟩⟩
 rw [if_neg cc147] at H
 refine gu rfl rfl rfl (vaF cc147) (x_fa tf124_0 rfl) <| gu rfl rfl rfl (vaF cc147) (x_ld tsc21 rfl (S.load 0 rfl 0 rfl)) <| gu rfl rfl rfl (vaF cc147) (x_bin rfl rfl rfl) <| u rfl (x_pickFV (v := .bool (y61.1.c != 93)) rfl (vaF cc147) rfl) <| mv (.bool (y61.1.c != 93)) rfl ?_
 by_cases cc148 : y61.1.c = 93
 ·rw [if_pos cc148] at H
  refine gu rfl rfl rfl (neF cc148) (x_fa tf121_2 rfl) <| gu rfl rfl rfl (neF cc148) (x_ld tsc119 rfl (S.load 3 rfl 2 rfl)) <| gu rfl rfl rfl (neF cc148) (x_lenD (r := R_regex_span) tsl119 h29) <| gu rfl rfl rfl (neF cc148) (x_bin rfl rfl rfl) <| u rfl (x_pickFV (v := .bool ((l27.length : Int) == 0)) rfl (neF cc148) rfl) <| u rfl (x_nk rfl) <| u rfl (x_fa tf117_1 rfl) <| g rfl (o_st tone4 S 1 rfl rfl rfl rfl fun w S => sq (FW.anew [(2, pt b1), (3, pt b2)] ⟨rfl, rfl, trivial⟩ fun σ => rg (u rfl (x_ldA tag121 rfl (S.loadW 3 rfl) rfl) (g rfl (o_stA tag121 S 4 rfl rfl rfl rfl (c1 rfl (c1 rfl (c1 h29.one (c1 rfl c0)))) rfl fun w S => rt ?_)))))
  obtain rfl := si H
  obtain rfl := si HO33
  exact ⟨_, ⟨_, _, _, rfl, rfl, ldA tag121 (S.loadW 4 rfl) rfl, rfl⟩, ⟨(.slice none 0 0), v28, y61_1v0, J63, hI, rfl, (SlR.nil _ _), h29, y61_1h0, (S.sel 5 [1] rfl)⟩⟩
 rw [if_neg cc148] at H
 refine gn rfl rfl rfl (neT cc148) <| gn rfl rfl rfl (neT cc148) <| gn rfl rfl rfl (neT cc148) <| gn rfl rfl rfl (neT cc148) <| u rfl (x_pickTV (v := .bool true) rfl (neT cc148) rfl) <| u rfl (x_nk rfl) <| u rfl (x_fa tf117_1 rfl) <| g rfl (o_st tone4 S 1 rfl rfl rfl rfl fun w S => sq (FW.anew [(2, pt b1), (3, pt b2)] ⟨rfl, rfl, trivial⟩ fun σ => rg (u rfl (x_ldA tag121 rfl (S.loadW 3 rfl) rfl) (g rfl (o_stA tag121 S 4 rfl rfl rfl rfl (c1 rfl (c1 rfl (c1 h29.one (c1 rfl c0)))) rfl fun w S => rt ?_)))))
 obtain rfl := si H
 obtain rfl := si HO33
 exact ⟨_, ⟨_, _, _, rfl, rfl, ldA tag121 (S.loadW 4 rfl) rfl, rfl⟩, ⟨(.slice none 0 0), v28, y61_1v0, J63, hI, rfl, (SlR.nil _ _), h29, y61_1h0, (S.sel 5 [1] rfl)⟩⟩
mutual
def rr_choices.l0 : Nat → (List T_pc) → (List T_sg) → Bool → Option ((List T_pc) × (List T_sg) × Bool)
  | 0, _, _, _ => none
  | k + 1, l12, l15, b18 => (if b18 = true then (some (l12, l15, b18)) else ((rr_peek.f k (T_regex_reader.mk l15 b18)).bind fun y34 => (if y34.1.c = 124 then ((rr_next.f k y34.2).bind fun y39 => ((rr_row.f k y39.2).bind fun y44 => ((app 64 l12 [y44.1]).bind fun l52 => (rr_choices.l0 k l52 y44.2.rest y44.2.bad)))) else (some (l12, y34.2.rest, y34.2.bad)))))
def rr_choices.f : Nat → T_regex_reader → Option (T_pc × T_regex_reader)
  | 0, _ => none
  | k + 1, x0 => ((rr_row.f k x0).bind fun y2 => ((rr_choices.l0 k [y2.1] y2.2.rest y2.2.bad).bind fun (l25, l28, b31) => (some ((T_pc.mk 1 l25 [] false), (T_regex_reader.mk l28 b31)))))
def rr_row.l0 : Nat → (List T_pc) → (List T_sg) → Bool → Option ((List T_pc) × (List T_sg) × Bool)
  | 0, _, _, _ => none
  | k + 1, l5, l8, b11 => (if b11 = true then (some (l5, l8, b11)) else ((rr_peek.f k (T_regex_reader.mk l8 b11)).bind fun y27 => (if y27.1.digits = true then ((rr_next.f k y27.2).bind fun y34 => ((rr_atom.f k y34.2 y34.1).bind fun y38 => ((rr_repeats.f k y38.2 y38.1).bind fun y42 => ((app 64 l5 [y42.1]).bind fun l50 => (rr_row.l0 k l50 y42.2.rest y42.2.bad))))) else (if y27.1.c = 0 then (some (l5, y27.2.rest, y27.2.bad)) else (if y27.1.c = 124 then (some (l5, y27.2.rest, y27.2.bad)) else (if y27.1.c = 41 then (some (l5, y27.2.rest, y27.2.bad)) else ((rr_next.f k y27.2).bind fun y60 => ((rr_atom.f k y60.2 y60.1).bind fun y64 => ((rr_repeats.f k y64.2 y64.1).bind fun y68 => ((app 64 l5 [y68.1]).bind fun l76 => (rr_row.l0 k l76 y68.2.rest y68.2.bad)))))))))))
def rr_row.f : Nat → T_regex_reader → Option (T_pc × T_regex_reader)
  | 0, _ => none
  | k + 1, x0 => ((rr_row.l0 k [] x0.rest x0.bad).bind fun (l18, l21, b24) => (some ((T_pc.mk 0 l18 [] false), (T_regex_reader.mk l21 b24))))
def rr_atom.f : Nat → T_regex_reader → T_sg → Option (T_pc × T_regex_reader)
  | 0, _, _ => none
  | k + 1, x0, x1 => (if x1.digits = true then (some ((T_pc.mk 2 [] [(T_regex_span.mk x1.n x1.n)] false), x0)) else (if x1.c = 46 then (some ((T_pc.mk 3 [] [] false), x0)) else (if x1.c = 94 then (some ((T_pc.mk 5 [] [] false), x0)) else (if x1.c = 36 then (some ((T_pc.mk 6 [] [] false), x0)) else (if x1.c = 91 then ((rr_set.f k x0).bind fun y12 => (some (y12.1, y12.2))) else (if x1.c = 40 then ((rr_choices.f k x0).bind fun y17 => (if y17.2.bad = true then (some (y17.1, (T_regex_reader.mk y17.2.rest true))) else ((rr_next.f k y17.2).bind fun y23 => (some (y17.1, (T_regex_reader.mk y23.2.rest (y23.1.c != 41))))))) else (some ((T_pc.mk 0 [] [] false), (T_regex_reader.mk x0.rest true)))))))))
end
abbrev rr_choices.C (k : Nat) : Prop := ∀ {x0 : T_regex_reader} {x0v0 : Value} {bx0 : Nat} {F : List It} {I : IMem} {w : World} {r : T_pc × T_regex_reader}, Glob I → Own I w (.bk bx0 117 [x0v0, .bool x0.bad] :: F) → SlR R_regex_sign I x0v0 x0.rest → rr_choices.f k x0 = some r →
    Calls Tryz.prog 82 #[pt bx0] w fun e w' => ∃ v, e = .returned v ∧ ∃ (y_0v1 : Value) (y_0v2 : Value) (y_1v0 : Value) (J : IMem), I.le J ∧ v = .agg #[.int .i64 r.1.kind, y_0v1, y_0v2, .bool r.1.not] ∧ SlR R_regex_piece J y_0v1 r.1.parts ∧ SlR R_regex_span J y_0v2 r.1.spans ∧ SlR R_regex_sign J y_1v0 r.2.rest ∧ Own J w' (.bk bx0 117 [y_1v0, .bool r.2.bad] :: F)
abbrev rr_row.C (k : Nat) : Prop := ∀ {x0 : T_regex_reader} {x0v0 : Value} {bx0 : Nat} {F : List It} {I : IMem} {w : World} {r : T_pc × T_regex_reader}, Glob I → Own I w (.bk bx0 117 [x0v0, .bool x0.bad] :: F) → SlR R_regex_sign I x0v0 x0.rest → rr_row.f k x0 = some r →
    Calls Tryz.prog 114 #[pt bx0] w fun e w' => ∃ v, e = .returned v ∧ ∃ (y_0v1 : Value) (y_0v2 : Value) (y_1v0 : Value) (J : IMem), I.le J ∧ v = .agg #[.int .i64 r.1.kind, y_0v1, y_0v2, .bool r.1.not] ∧ SlR R_regex_piece J y_0v1 r.1.parts ∧ SlR R_regex_span J y_0v2 r.1.spans ∧ SlR R_regex_sign J y_1v0 r.2.rest ∧ Own J w' (.bk bx0 117 [y_1v0, .bool r.2.bad] :: F)
abbrev rr_atom.C (k : Nat) : Prop := ∀ {x0 : T_regex_reader} {x1 : T_sg} {x0v0 : Value} {bx0 : Nat} {F : List It} {I : IMem} {w : World} {r : T_pc × T_regex_reader}, Glob I → Own I w (.bk bx0 117 [x0v0, .bool x0.bad] :: F) → SlR R_regex_sign I x0v0 x0.rest → rr_atom.f k x0 x1 = some r →
    Calls Tryz.prog 142 #[pt bx0, .agg #[.int .i32 x1.c, .int .u32 x1.n, .bool x1.digits]] w fun e w' => ∃ v, e = .returned v ∧ ∃ (y_0v1 : Value) (y_0v2 : Value) (y_1v0 : Value) (J : IMem), I.le J ∧ v = .agg #[.int .i64 r.1.kind, y_0v1, y_0v2, .bool r.1.not] ∧ SlR R_regex_piece J y_0v1 r.1.parts ∧ SlR R_regex_span J y_0v2 r.1.spans ∧ SlR R_regex_sign J y_1v0 r.2.rest ∧ Own J w' (.bk bx0 117 [y_1v0, .bool r.2.bad] :: F)
theorem rr_choices.step (k : Nat) (ih_rr_row : ∀ m, m ≤ k → rr_row.C m) : rr_choices.C (k + 1) := by
 intro x0 x0v0 bx0 F I w r hG S x0h0 H
 have hI := ilr I
 rw [rr_choices.f] at H
 refine Calls.ofFW (args := [pt bx0]) Tryz.func82 rfl rfl <| sr <| g rfl (o_all tz121 S fun b1 w S => sq (rg (mv (pt bx0) rfl ?_)))
 obtain ⟨y2, hy3, H⟩ := obx H
 refine g rfl (cl fb114 (@ih_rr_row k (by omega) x0 _ _ _ _ _ _ hG (S.sel 2 [1, 0] rfl) x0h0 hy3) rfl ?_)
 rintro _ w ⟨y2_0v1, y2_0v2, y2_1v0, J4, hJ5, rfl, y2_0h1, y2_0h2, y2_1h0, S⟩
 have hI := hI.trans hJ5
 have hG := hG.mono hJ5
 refine g rfl (o_bsl tsl118 tz121 rfl rfl rfl rfl (.agg PC.nil) rfl S fun b6 w S => ?_)
 obtain ⟨J7, hJ9, S, h8⟩ := S.freeze (r := R_regex_piece) (l := [y2.1]) 0 rfl ⟨[.int .i64 y2.1.kind, y2_0v1, y2_0v2, .bool y2.1.not], _, rfl, (R_regex_piece.mk (x := y2.1) y2_0h1 y2_0h2), rfl⟩ rfl rfl
 have y2_1h0 := y2_1h0.mono hJ9
 have hI := hI.trans hJ9
 have hG := hG.mono hJ9
 refine u rfl (x_bld tz121 tpl121 rfl (.one rfl (.one h8.one PC.nil)) rfl) <| g rfl (o_all tz121 S fun b10 w S => g rfl (o_stA tag121 S 0 rfl rfl rfl rfl (c1 rfl (c1 h8.one (c1 rfl (c1 rfl c0)))) rfl fun w S => sq (bk ?_)))
 obtain ⟨o21, hl23, HO22⟩ := obx H
 refine FW.cutX 0 (fun σ w => ∃ (l25 : (List T_pc)) (l28 : (List T_sg)) (b31 : Bool) (v26 : Value) (v29 : Value) (J24 : IMem), (l25, l28, b31) = o21 ∧ Has σ [(2, pt b1), (3, pt b10)] ∧ J7.le J24 ∧ Own J24 w (.bk b10 121 [.int .i64 1, v26, (.slice none 0 0), .bool false] :: .tv v26 121 4 :: .bk bx0 117 [v29, .bool b31] :: .bk b1 121 [.int .i64 0, (.slice none 0 0), (.slice none 0 0), .bool false] :: F) ∧ SlR R_regex_piece J24 v26 l25 ∧ SlR R_regex_sign J24 v29 l28) ?_ ?_
 ·refine FW.loop k (FL.ind (fun q σ w => ∃ (l12 : (List T_pc)) (l15 : (List T_sg)) (b18 : Bool) (v13 : Value) (v16 : Value) (J11 : IMem), rr_choices.l0 q l12 l15 b18 = some o21 ∧ q ≤ k ∧ Has σ [(0, pt bx0), (2, pt b1), (3, pt b10)] ∧ J7.le J11 ∧ Own J11 w (.bk b10 121 [.int .i64 1, v13, (.slice none 0 0), .bool false] :: .tv v13 121 4 :: .bk bx0 117 [v16, .bool b18] :: .bk b1 121 [.int .i64 0, (.slice none 0 0), (.slice none 0 0), .bool false] :: F) ∧ SlR R_regex_piece J11 v13 l12 ∧ SlR R_regex_sign J11 v16 l15) ?_ ?_ k k _ _ (Nat.le_refl _) ⟨[y2.1], y2.2.rest, y2.2.bad, (.slice (some ⟨b6, 0, none⟩) 1 1), y2_1v0, J7, hl23, Nat.le_refl _, ⟨rfl, rfl, rfl, trivial⟩, (ilr _), S, h8, y2_1h0⟩)
  ·rintro σ w ⟨l12, l15, b18, v13, v16, J11, H, _⟩; cases H
  rintro q19 σ w ⟨l12, l15, b18, v13, v16, J11, H, hq32, hσ, hL20, S, h14, h17⟩
  have hG := hG.mono hL20
  rw [hσ.eq]
  rw [rr_choices.l0] at H
  refine sq <| sr <| mv (pt bx0) rfl <| u rfl (x_nk rfl) <| u rfl (x_fa tf117_1 rfl) <| u rfl (x_ld tsc4 rfl (S.load 2 rfl 1 rfl)) <| u rfl (x_not' rfl) <| mv (.bool (!b18)) rfl ?_
  by_cases cc33 : b18 = true
  ·rw [if_pos cc33] at H
   refine gn rfl rfl rfl (noF cc33) <| gn rfl rfl rfl (noF cc33) <| gn rfl rfl rfl (noF cc33) <| gn rfl rfl rfl (noF cc33) <| u rfl (x_pickFV (v := .bool false) rfl (noF cc33) rfl) <| cF rfl rfl <| ex ⟨l12, l15, b18, v13, v16, J11, (si H), ⟨rfl, rfl, trivial⟩, hL20, S, h14, h17⟩
  rw [if_neg cc33] at H
  refine gu rfl rfl rfl (noT (vaF cc33)) (x_movV (v := pt bx0) rfl) ?_
  obtain ⟨y34, hy35, H⟩ := obx H
  refine OK.gt rfl rfl rfl (noT (vaF cc33)) (cl fb83 (@rr_peek.ok q19 (T_regex_reader.mk l15 b18) _ _ _ _ _ _ hG (S.sel 4 [2, 0, 1, 3] rfl) h17 hy35) rfl ?_)
  rintro _ w ⟨y34_1v0, J36, hJ37, rfl, y34_1h0, S⟩
  have h14 := h14.mono hJ37
  have hL20 := hL20.trans hJ37
  have hG := hG.mono hJ37
  refine gu rfl rfl rfl (noT (vaF cc33)) (x_fld tf124_0 tsc21 rfl rfl) <| gu rfl rfl rfl (noT (vaF cc33)) (x_bin rfl rfl rfl) <| u rfl (x_pickTV (v := .bool (y34.1.c == 124)) rfl (noT (vaF cc33)) rfl) ?_
  by_cases cc38 : y34.1.c = 124
  ·rw [if_pos cc38] at H
   refine cT rfl (eqT cc38) <| sk <| bk <| sq <| FW.anew [(0, pt bx0), (2, pt b1), (3, pt b10)] ⟨rfl, rfl, rfl, trivial⟩ fun σ => rg <| mv (pt bx0) rfl ?_
   obtain ⟨y39, hy40, H⟩ := obx H
   refine g rfl (cl fb115 (@rr_next.ok q19 y34.2 _ _ _ _ _ _ hG S y34_1h0 hy40) rfl ?_)
   rintro _ w ⟨y39_1v0, J41, hJ42, rfl, y39_1h0, S⟩
   have h14 := h14.mono hJ42
   have hL20 := hL20.trans hJ42
   have hG := hG.mono hJ42
   have S := S.drew
   refine FW.regionD mixed ?_
   have hO := Hold.nil (w := { w with drawn := w.drawn + 1 })
   refine ap 0 rfl (by kernel_rfl) hO (fun w => x_fa tf121_1 rfl) ?_
   have hR43 := ilr J41
   refine ak (Stab J41 [.bk b10 121 [.int .i64 1, v13, (.slice none 0 0), .bool false]]) 1 rfl (by kernel_rfl) hO (Stab.of S 1 rfl hR43) (fun w hS => x_ld tsc118 rfl (hS.load 0 rfl 1 rfl)) fun hO => am 2 (pt bx0) rfl (by kernel_rfl) hO <| AQ.one 3 [1] [true] (by kernel_rfl) rfl (by kernel_rfl) ?_
   obtain ⟨y44, hy45, H⟩ := obx H
   refine g rfl (cl fb114 (@ih_rr_row q19 (by omega) y39.2 _ _ _ _ _ _ hG S y39_1h0 hy45) rfl ?_)
   rintro _ w ⟨y44_0v1, y44_0v2, y44_1v0, J46, hJ47, rfl, y44_0h1, y44_0h2, y44_1h0, S⟩
   have h14 := h14.mono hJ47
   have hL20 := hL20.trans hJ47
   have hR43 := hR43.trans hJ47
   refine andI (Hold.cons (Stab.of S 1 rfl hR43) Hold.nil) fun hO => AQ.one 4 [1] [true] (by kernel_rfl) rfl (by kernel_rfl) <| g rfl (o_bsl tsl118 tz121 rfl rfl rfl rfl (.agg PC.nil) rfl S fun b48 w S => ?_)
   obtain ⟨J49, hJ51, S, h50⟩ := S.freeze (r := R_regex_piece) (l := [y44.1]) 0 rfl ⟨[.int .i64 y44.1.kind, y44_0v1, y44_0v2, .bool y44.1.not], _, rfl, (R_regex_piece.mk (x := y44.1) y44_0h1 y44_0h2), rfl⟩ rfl rfl
   have h14 := h14.mono hJ51
   have y44_1h0 := y44_1h0.mono hJ51
   have hL20 := hL20.trans hJ51
   have hR43 := hR43.trans hJ51
   refine andI (Hold.cons (Stab.of S 2 rfl hR43) Hold.nil) fun hO => AQ.one 5 [1] [false] (by kernel_rfl) rfl (by kernel_rfl) ?_
   obtain ⟨l52, h54, H⟩ := obx H
   refine g rfl (o_appD (r := R_regex_piece) tsl118 rfl tz121 rfl rfl S 3 rfl rfl h14 h50 h54 fun v53 w J56 hJ57 S h55 => ?_)
   have y44_1h0 := y44_1h0.mono hJ57
   have hL20 := hL20.trans hJ57
   refine andI Hold.nil fun hO => ap 6 rfl (by kernel_rfl) hO (fun w => x_fa tf121_1 rfl) <| AQ.one 7 [] [] (by kernel_rfl) rfl (by kernel_rfl) <| g rfl (o_st tone118 S 2 rfl rfl rfl h55.one fun w S => andI Hold.nil fun hO => AQ.done (by kernel_rfl) ⟨q19, Nat.le_refl _, l52, y44.2.rest, y44.2.bad, v53, y44_1v0, J56, H, (Nat.le_of_succ_le hq32), ⟨rfl, rfl, rfl, trivial⟩, hL20, (S.sel 5 [2, 3, 1, 4] rfl), h55, y44_1h0⟩)
  rw [if_neg cc38] at H
  refine cF rfl (eqF cc38) <| ex ⟨l12, y34.2.rest, y34.2.bad, v13, y34_1v0, J36, (si H), ⟨rfl, rfl, trivial⟩, hL20, (S.sel 4 [1, 2, 0, 3] rfl), h14, y34_1h0⟩
 rintro σ w ⟨l25, l28, b31, v26, v29, J24, ho, hσ, hL20, S, h27, h30⟩
 subst ho
 have H := HO22
 try dsimp only at H
 have hI := hI.trans hL20
 rw [hσ.eq]
 refine sr <| u rfl (x_ldA tag121 rfl (S.loadW 0 rfl) rfl) <| g rfl (o_stA tag121 S 3 rfl rfl rfl rfl (c1 rfl (c1 h27.one (c1 rfl (c1 rfl c0)))) rfl fun w S => rt ?_)
 obtain rfl := si H
 exact ⟨_, ⟨_, _, _, rfl, rfl, ldA tag121 (S.loadW 3 rfl) rfl, rfl⟩, ⟨v26, (.slice none 0 0), v29, J24, hI, rfl, h27, (SlR.nil _ _), h30, (S.sel 4 [2] rfl)⟩⟩
theorem rr_choices.zero : rr_choices.C 0 := by
  intro _ _ _ _ _ _ _ _ _ _ H; cases H
theorem rr_row.step (k : Nat) (ih_rr_atom : ∀ m, m ≤ k → rr_atom.C m) : rr_row.C (k + 1) := by
 intro x0 x0v0 bx0 F I w r hG S x0h0 H
 have hI := ilr I
 rw [rr_row.f] at H
 refine Calls.ofFW (args := [pt bx0]) Tryz.func114 rfl rfl <| sr <| g rfl (o_all tz121 S fun b1 w S => sq (rg (u rfl (x_bld tz121 tpl121 rfl (.one rfl PC.nil) rfl) (g rfl (o_all tz121 S fun b2 w S => g rfl (o_stA tag121 S 0 rfl rfl rfl rfl (c1 rfl (c1 rfl (c1 rfl (c1 rfl c0)))) rfl fun w S => sq (bk ?_)))))))
 have S := S.nil_tv 121 4
 obtain ⟨o14, hl16, HO15⟩ := obx H
 refine FW.cutX 0 (fun σ w => ∃ (l18 : (List T_pc)) (l21 : (List T_sg)) (b24 : Bool) (v19 : Value) (v22 : Value) (J17 : IMem), (l18, l21, b24) = o14 ∧ Has σ [(2, pt b1), (3, pt b2)] ∧ I.le J17 ∧ Own J17 w (.tv v19 121 4 :: .bk b2 121 [.int .i64 0, v19, (.slice none 0 0), .bool false] :: .bk b1 121 [.int .i64 0, (.slice none 0 0), (.slice none 0 0), .bool false] :: .bk bx0 117 [v22, .bool b24] :: F) ∧ SlR R_regex_piece J17 v19 l18 ∧ SlR R_regex_sign J17 v22 l21) ?_ ?_
 ·refine FW.loop k (FL.ind (fun q σ w => ∃ (l5 : (List T_pc)) (l8 : (List T_sg)) (b11 : Bool) (v6 : Value) (v9 : Value) (J4 : IMem), rr_row.l0 q l5 l8 b11 = some o14 ∧ q ≤ k ∧ Has σ [(0, pt bx0), (2, pt b1), (3, pt b2)] ∧ I.le J4 ∧ Own J4 w (.tv v6 121 4 :: .bk b2 121 [.int .i64 0, v6, (.slice none 0 0), .bool false] :: .bk b1 121 [.int .i64 0, (.slice none 0 0), (.slice none 0 0), .bool false] :: .bk bx0 117 [v9, .bool b11] :: F) ∧ SlR R_regex_piece J4 v6 l5 ∧ SlR R_regex_sign J4 v9 l8) ?_ ?_ k k _ _ (Nat.le_refl _) ⟨[], x0.rest, x0.bad, (.slice none 0 0), x0v0, I, hl16, Nat.le_refl _, ⟨rfl, rfl, rfl, trivial⟩, (ilr _), S, (SlR.nil _ _), x0h0⟩)
  ·rintro σ w ⟨l5, l8, b11, v6, v9, J4, H, _⟩; cases H
  rintro q12 σ w ⟨l5, l8, b11, v6, v9, J4, H, hq25, hσ, hL13, S, h7, h10⟩
  have hG := hG.mono hL13
  rw [hσ.eq]
  rw [rr_row.l0] at H
  refine sq <| sr <| mv (pt bx0) rfl <| u rfl (x_nk rfl) <| u rfl (x_fa tf117_1 rfl) <| u rfl (x_ld tsc4 rfl (S.load 3 rfl 1 rfl)) <| u rfl (x_not' rfl) ?_
  by_cases cc26 : b11 = true
  ·rw [if_pos cc26] at H
   refine cF rfl (noF cc26) <| ex ⟨l5, l8, b11, v6, v9, J4, (si H), ⟨rfl, rfl, trivial⟩, hL13, S, h7, h10⟩
  rw [if_neg cc26] at H
  refine cT rfl (noT (vaF cc26)) <| sk <| bk <| sr <| mv (pt bx0) rfl ?_
  obtain ⟨y27, hy28, H⟩ := obx H
  refine g rfl (cl fb83 (@rr_peek.ok q12 (T_regex_reader.mk l8 b11) _ _ _ _ _ _ hG (S.sel 4 [3, 0, 1, 2] rfl) h10 hy28) rfl ?_)
  rintro _ w ⟨y27_1v0, J29, hJ30, rfl, y27_1h0, S⟩
  have h7 := h7.mono hJ30
  have hL13 := hL13.trans hJ30
  have hG := hG.mono hJ30
  refine g rfl (o_all tz124 S fun b31 w S => g rfl (o_stA tag124 S 0 rfl rfl rfl rfl (c1 rfl (c1 rfl (c1 rfl c0))) rfl fun w S => sq (sq (FW.anew [(0, pt bx0), (2, pt b1), (3, pt b2), (4, pt b31)] ⟨rfl, rfl, rfl, rfl, trivial⟩ fun σ => rg (u rfl (x_fa tf124_2 rfl) (u rfl (x_ld tsc4 rfl (S.load 0 rfl 2 rfl)) (u rfl (x_not' rfl) (mv (.bool (!y27.1.digits)) rfl ?_))))))))
  by_cases cc32 : y27.1.digits = true
  ·rw [if_pos cc32] at H
   refine gn rfl rfl rfl (noF cc32) <| gn rfl rfl rfl (noF cc32) <| gn rfl rfl rfl (noF cc32) <| gn rfl rfl rfl (noF cc32) <| OK.gu rfl rfl rfl <| OK.gu rfl rfl rfl <| OK.gu rfl rfl rfl <| gn rfl rfl rfl (noF cc32) <| gn rfl rfl rfl (noF cc32) <| OK.gu rfl rfl rfl <| OK.gu rfl rfl rfl <| OK.gu rfl rfl rfl <| gn rfl rfl rfl (noF cc32) <| u rfl (x_pickFV (v := .bool false) rfl (noF cc32) rfl) <| cF rfl rfl <| sk ?_
   have S := S.drew
   refine FW.regionD mixed ?_
   have hO := Hold.nil (w := { w with drawn := w.drawn + 1 })
   refine ap 0 rfl (by kernel_rfl) hO (fun w => x_fa tf121_1 rfl) ?_
   have hR33 := ilr J29
   refine ak (Stab J29 [.bk b2 121 [.int .i64 0, v6, (.slice none 0 0), .bool false]]) 1 rfl (by kernel_rfl) hO (Stab.of S 3 rfl hR33) (fun w hS => x_ld tsc118 rfl (hS.load 0 rfl 1 rfl)) fun hO => am 2 (pt bx0) rfl (by kernel_rfl) hO <| am 3 (pt bx0) rfl (by kernel_rfl) hO <| am 4 (pt bx0) rfl (by kernel_rfl) hO <| AQ.one 5 [1] [true] (by kernel_rfl) rfl (by kernel_rfl) ?_
   obtain ⟨y34, hy35, H⟩ := obx H
   refine g rfl (cl fb115 (@rr_next.ok q12 y27.2 _ _ _ _ _ _ hG (S.sel 5 [1, 0, 2, 3, 4] rfl) y27_1h0 hy35) rfl ?_)
   rintro _ w ⟨y34_1v0, J36, hJ37, rfl, y34_1h0, S⟩
   have h7 := h7.mono hJ37
   have hL13 := hL13.trans hJ37
   have hR33 := hR33.trans hJ37
   have hG := hG.mono hJ37
   refine andI (Hold.cons (Stab.of S 3 rfl hR33) Hold.nil) fun hO => AQ.one 6 [1] [true] (by kernel_rfl) rfl (by kernel_rfl) ?_
   obtain ⟨y38, hy39, H⟩ := obx H
   refine g rfl (cl fb142 (@ih_rr_atom q12 (by omega) y34.2 y34.1 _ _ _ _ _ _ hG S y34_1h0 hy39) rfl ?_)
   rintro _ w ⟨y38_0v1, y38_0v2, y38_1v0, J40, hJ41, rfl, y38_0h1, y38_0h2, y38_1h0, S⟩
   have h7 := h7.mono hJ41
   have hL13 := hL13.trans hJ41
   have hR33 := hR33.trans hJ41
   have hG := hG.mono hJ41
   refine andI (Hold.cons (Stab.of S 3 rfl hR33) Hold.nil) fun hO => AQ.one 7 [1] [true] (by kernel_rfl) rfl (by kernel_rfl) ?_
   obtain ⟨y42, hy43, H⟩ := obx H
   refine g rfl (cl fb141 (@rr_repeats.ok q12 y38.2 y38.1 _ _ _ _ _ _ _ _ hG S y38_1h0 y38_0h1 y38_0h2 hy43) rfl ?_)
   rintro _ w ⟨y42_0v1, y42_0v2, y42_1v0, J44, hJ45, rfl, y42_0h1, y42_0h2, y42_1h0, S⟩
   have h7 := h7.mono hJ45
   have hL13 := hL13.trans hJ45
   have hR33 := hR33.trans hJ45
   refine andI (Hold.cons (Stab.of S 3 rfl hR33) Hold.nil) fun hO => AQ.one 8 [1] [true] (by kernel_rfl) rfl (by kernel_rfl) <| g rfl (o_bsl tsl118 tz121 rfl rfl rfl rfl (.agg PC.nil) rfl S fun b46 w S => ?_)
   obtain ⟨J47, hJ49, S, h48⟩ := S.freeze (r := R_regex_piece) (l := [y42.1]) 0 rfl ⟨[.int .i64 y42.1.kind, y42_0v1, y42_0v2, .bool y42.1.not], _, rfl, (R_regex_piece.mk (x := y42.1) y42_0h1 y42_0h2), rfl⟩ rfl rfl
   have h7 := h7.mono hJ49
   have y42_1h0 := y42_1h0.mono hJ49
   have hL13 := hL13.trans hJ49
   have hR33 := hR33.trans hJ49
   refine andI (Hold.cons (Stab.of S 4 rfl hR33) Hold.nil) fun hO => AQ.one 9 [1] [false] (by kernel_rfl) rfl (by kernel_rfl) ?_
   obtain ⟨l50, h52, H⟩ := obx H
   refine g rfl (o_appD (r := R_regex_piece) tsl118 rfl tz121 rfl rfl S 3 rfl rfl h7 h48 h52 fun v51 w J54 hJ55 S h53 => ?_)
   have y42_1h0 := y42_1h0.mono hJ55
   have hL13 := hL13.trans hJ55
   refine andI Hold.nil fun hO => ap 10 rfl (by kernel_rfl) hO (fun w => x_fa tf121_1 rfl) <| AQ.one 11 [] [] (by kernel_rfl) rfl (by kernel_rfl) <| g rfl (o_st tone118 S 4 rfl rfl rfl h53.one fun w S => andI Hold.nil fun hO => AQ.done (by kernel_rfl) ⟨q12, Nat.le_refl _, l50, y42.2.rest, y42.2.bad, v51, y42_1v0, J54, H, (Nat.le_of_succ_le hq25), ⟨rfl, rfl, rfl, trivial⟩, hL13, (S.sel 6 [3, 4, 5, 1] rfl), h53, y42_1h0⟩)
  rw [if_neg cc32] at H
  refine gu rfl rfl rfl (noT (vaF cc32)) (x_fa tf124_0 rfl) <| gu rfl rfl rfl (noT (vaF cc32)) (x_ld tsc21 rfl (S.load 0 rfl 0 rfl)) <| gu rfl rfl rfl (noT (vaF cc32)) (x_bin rfl rfl rfl) <| gu rfl rfl rfl (noT (vaF cc32)) (x_movV (v := .bool (y27.1.c == 0)) rfl) ?_
  by_cases cc56 : y27.1.c = 0
  ·rw [if_pos cc56] at H
   refine gn rfl rfl rfl (eqT cc56) <| gn rfl rfl rfl (eqT cc56) <| gn rfl rfl rfl (eqT cc56) <| gu rfl rfl rfl (noT (vaF cc32)) (x_pickTV (v := .bool true) rfl (eqT cc56) rfl) <| gu rfl rfl rfl (noT (vaF cc32)) (x_movV (v := .bool true) rfl) <| gn rfl rfl rfl rfl <| gn rfl rfl rfl rfl <| gn rfl rfl rfl rfl <| gu rfl rfl rfl (noT (vaF cc32)) (x_pickTV (v := .bool true) rfl rfl rfl) <| u rfl (x_pickTV (v := .bool true) rfl (noT (vaF cc32)) rfl) <| cT rfl rfl <| ex ⟨l5, y27.2.rest, y27.2.bad, v6, y27_1v0, J29, (si H), ⟨rfl, rfl, trivial⟩, hL13, (S.sel 5 [2, 3, 4, 1] rfl), h7, y27_1h0⟩
  rw [if_neg cc56] at H
  refine gu rfl rfl rfl (eqF cc56) (x_fa tf124_0 rfl) <| gu rfl rfl rfl (eqF cc56) (x_ld tsc21 rfl (S.load 0 rfl 0 rfl)) <| gu rfl rfl rfl (eqF cc56) (x_bin rfl rfl rfl) <| gu rfl rfl rfl (noT (vaF cc32)) (x_pickFV (v := .bool (y27.1.c == 124)) rfl (eqF cc56) rfl) <| gu rfl rfl rfl (noT (vaF cc32)) (x_movV (v := .bool (y27.1.c == 124)) rfl) ?_
  by_cases cc57 : y27.1.c = 124
  ·rw [if_pos cc57] at H
   refine gn rfl rfl rfl (eqT cc57) <| gn rfl rfl rfl (eqT cc57) <| gn rfl rfl rfl (eqT cc57) <| gu rfl rfl rfl (noT (vaF cc32)) (x_pickTV (v := .bool true) rfl (eqT cc57) rfl) <| u rfl (x_pickTV (v := .bool true) rfl (noT (vaF cc32)) rfl) <| cT rfl rfl <| ex ⟨l5, y27.2.rest, y27.2.bad, v6, y27_1v0, J29, (si H), ⟨rfl, rfl, trivial⟩, hL13, (S.sel 5 [2, 3, 4, 1] rfl), h7, y27_1h0⟩
  rw [if_neg cc57] at H
  refine gu rfl rfl rfl (eqF cc57) (x_fa tf124_0 rfl) <| gu rfl rfl rfl (eqF cc57) (x_ld tsc21 rfl (S.load 0 rfl 0 rfl)) <| gu rfl rfl rfl (eqF cc57) (x_bin rfl rfl rfl) <| gu rfl rfl rfl (noT (vaF cc32)) (x_pickFV (v := .bool (y27.1.c == 41)) rfl (eqF cc57) rfl) <| u rfl (x_pickTV (v := .bool (y27.1.c == 41)) rfl (noT (vaF cc32)) rfl) ?_
  by_cases cc58 : y27.1.c = 41
  ·rw [if_pos cc58] at H
   refine cT rfl (eqT cc58) <| ex ⟨l5, y27.2.rest, y27.2.bad, v6, y27_1v0, J29, (si H), ⟨rfl, rfl, trivial⟩, hL13, (S.sel 5 [2, 3, 4, 1] rfl), h7, y27_1h0⟩
  rw [if_neg cc58] at H
  refine cF rfl (eqF cc58) <| sk <| FW.anew [(0, pt bx0), (2, pt b1), (3, pt b2)] ⟨rfl, rfl, rfl, trivial⟩ fun σ => ?_
  have S := S.drew
  refine FW.regionD mixed ?_
  have hO := Hold.nil (w := { w with drawn := w.drawn + 1 })
  refine ap 0 rfl (by kernel_rfl) hO (fun w => x_fa tf121_1 rfl) ?_
  have hR59 := ilr J29
  refine ak (Stab J29 [.bk b2 121 [.int .i64 0, v6, (.slice none 0 0), .bool false]]) 1 rfl (by kernel_rfl) hO (Stab.of S 3 rfl hR59) (fun w hS => x_ld tsc118 rfl (hS.load 0 rfl 1 rfl)) fun hO => am 2 (pt bx0) rfl (by kernel_rfl) hO <| am 3 (pt bx0) rfl (by kernel_rfl) hO <| am 4 (pt bx0) rfl (by kernel_rfl) hO <| AQ.one 5 [1] [true] (by kernel_rfl) rfl (by kernel_rfl) ?_
  obtain ⟨y60, hy61, H⟩ := obx H
  refine g rfl (cl fb115 (@rr_next.ok q12 y27.2 _ _ _ _ _ _ hG (S.sel 5 [1, 0, 2, 3, 4] rfl) y27_1h0 hy61) rfl ?_)
  rintro _ w ⟨y60_1v0, J62, hJ63, rfl, y60_1h0, S⟩
  have h7 := h7.mono hJ63
  have hL13 := hL13.trans hJ63
  have hR59 := hR59.trans hJ63
  have hG := hG.mono hJ63
  refine andI (Hold.cons (Stab.of S 3 rfl hR59) Hold.nil) fun hO => AQ.one 6 [1] [true] (by kernel_rfl) rfl (by kernel_rfl) ?_
  obtain ⟨y64, hy65, H⟩ := obx H
  refine g rfl (cl fb142 (@ih_rr_atom q12 (by omega) y60.2 y60.1 _ _ _ _ _ _ hG S y60_1h0 hy65) rfl ?_)
  rintro _ w ⟨y64_0v1, y64_0v2, y64_1v0, J66, hJ67, rfl, y64_0h1, y64_0h2, y64_1h0, S⟩
  have h7 := h7.mono hJ67
  have hL13 := hL13.trans hJ67
  have hR59 := hR59.trans hJ67
  have hG := hG.mono hJ67
  refine andI (Hold.cons (Stab.of S 3 rfl hR59) Hold.nil) fun hO => AQ.one 7 [1] [true] (by kernel_rfl) rfl (by kernel_rfl) ?_
  obtain ⟨y68, hy69, H⟩ := obx H
  refine g rfl (cl fb141 (@rr_repeats.ok q12 y64.2 y64.1 _ _ _ _ _ _ _ _ hG S y64_1h0 y64_0h1 y64_0h2 hy69) rfl ?_)
  rintro _ w ⟨y68_0v1, y68_0v2, y68_1v0, J70, hJ71, rfl, y68_0h1, y68_0h2, y68_1h0, S⟩
  have h7 := h7.mono hJ71
  have hL13 := hL13.trans hJ71
  have hR59 := hR59.trans hJ71
  refine andI (Hold.cons (Stab.of S 3 rfl hR59) Hold.nil) fun hO => AQ.one 8 [1] [true] (by kernel_rfl) rfl (by kernel_rfl) <| g rfl (o_bsl tsl118 tz121 rfl rfl rfl rfl (.agg PC.nil) rfl S fun b72 w S => ?_)
  obtain ⟨J73, hJ75, S, h74⟩ := S.freeze (r := R_regex_piece) (l := [y68.1]) 0 rfl ⟨[.int .i64 y68.1.kind, y68_0v1, y68_0v2, .bool y68.1.not], _, rfl, (R_regex_piece.mk (x := y68.1) y68_0h1 y68_0h2), rfl⟩ rfl rfl
  have h7 := h7.mono hJ75
  have y68_1h0 := y68_1h0.mono hJ75
  have hL13 := hL13.trans hJ75
  have hR59 := hR59.trans hJ75
  refine andI (Hold.cons (Stab.of S 4 rfl hR59) Hold.nil) fun hO => AQ.one 9 [1] [false] (by kernel_rfl) rfl (by kernel_rfl) ?_
  obtain ⟨l76, h78, H⟩ := obx H
  refine g rfl (o_appD (r := R_regex_piece) tsl118 rfl tz121 rfl rfl S 3 rfl rfl h7 h74 h78 fun v77 w J80 hJ81 S h79 => ?_)
  have y68_1h0 := y68_1h0.mono hJ81
  have hL13 := hL13.trans hJ81
  refine andI Hold.nil fun hO => ap 10 rfl (by kernel_rfl) hO (fun w => x_fa tf121_1 rfl) <| AQ.one 11 [] [] (by kernel_rfl) rfl (by kernel_rfl) <| g rfl (o_st tone118 S 4 rfl rfl rfl h79.one fun w S => andI Hold.nil fun hO => AQ.done (by kernel_rfl) ⟨q12, Nat.le_refl _, l76, y68.2.rest, y68.2.bad, v77, y68_1v0, J80, H, (Nat.le_of_succ_le hq25), ⟨rfl, rfl, rfl, trivial⟩, hL13, (S.sel 6 [3, 4, 5, 1] rfl), h79, y68_1h0⟩)
 rintro σ w ⟨l18, l21, b24, v19, v22, J17, ho, hσ, hL13, S, h20, h23⟩
 subst ho
 have H := HO15
 try dsimp only at H
 have hI := hI.trans hL13
 rw [hσ.eq]
 refine sr <| u rfl (x_ldA tag121 rfl (S.loadW 1 rfl) rfl) <| g rfl (o_stA tag121 S 2 rfl rfl rfl rfl (c1 rfl (c1 h20.one (c1 rfl (c1 rfl c0)))) rfl fun w S => rt ?_)
 obtain rfl := si H
 exact ⟨_, ⟨_, _, _, rfl, rfl, ldA tag121 (S.loadW 2 rfl) rfl, rfl⟩, ⟨v19, (.slice none 0 0), v22, J17, hI, rfl, h20, (SlR.nil _ _), h23, (S.sel 4 [3] rfl)⟩⟩
theorem rr_row.zero : rr_row.C 0 := by
  intro _ _ _ _ _ _ _ _ _ _ H; cases H
theorem rr_atom.step (k : Nat) (ih_rr_choices : ∀ m, m ≤ k → rr_choices.C m) : rr_atom.C (k + 1) := by
 intro x0 x1 x0v0 bx0 F I w r hG S x0h0 H
 have hI := ilr I
 rw [rr_atom.f] at H
 refine Calls.ofFW (args := [pt bx0, .agg #[.int .i32 x1.c, .int .u32 x1.n, .bool x1.digits]]) Tryz.func142 rfl rfl <| sr <| g rfl (o_boxA rfl S fun b1 w S => g rfl (o_all tz121 S fun b2 w S => sq (bk (sq (rg (u rfl (x_fa tf124_2 rfl) (u rfl (x_ld tsc4 rfl (S.load 1 rfl 2 rfl)) (mv (.bool x1.digits) rfl ?_))))))))
 by_cases cc3 : x1.digits = true
 ·rw [if_pos cc3] at H
  refine cT rfl cc3 <| sr <| u rfl (x_fa tf124_1 rfl) <| u rfl (x_ld tsc23 rfl (S.load 1 rfl 1 rfl)) <| u rfl (x_fa tf124_1 rfl) <| u rfl (x_ld tsc23 rfl (S.load 1 rfl 1 rfl)) <| u rfl (x_bld tz167 tpl167 rfl (.one rfl (.one rfl PC.nil)) rfl) <| g rfl (o_bsl tsl119 tz167 rfl rfl rfl rfl (.agg PC.nil) rfl S fun b4 w S => ?_)
  obtain ⟨J5, hJ7, S, h6⟩ := S.freeze (r := R_regex_span) (l := [(T_regex_span.mk x1.n x1.n)]) 0 rfl ⟨[.int .u32 x1.n, .int .u32 x1.n], _, rfl, rfl, rfl⟩ rfl rfl
  have x0h0 := x0h0.mono hJ7
  have hI := hI.trans hJ7
  refine u rfl (x_bld tz121 tpl121 rfl (.one rfl (.one h6.one PC.nil)) rfl) <| g rfl (o_stA tag121 S 1 rfl rfl rfl rfl (c1 rfl (c1 rfl (c1 h6.one (c1 rfl c0)))) rfl fun w S => rt ?_)
  obtain rfl := si H
  exact ⟨_, ⟨_, _, _, rfl, rfl, ldA tag121 (S.loadW 1 rfl) rfl, rfl⟩, ⟨(.slice none 0 0), (.slice (some ⟨b4, 0, none⟩) 1 1), x0v0, J5, hI, rfl, (SlR.nil _ _), h6, x0h0, (S.sel 4 [3] rfl)⟩⟩
 rw [if_neg cc3] at H
 refine cF rfl (vaF cc3) <| sr <| u rfl (x_fa tf124_0 rfl) <| u rfl (x_ld tsc21 rfl (S.load 1 rfl 0 rfl)) <| u rfl (x_bin rfl rfl rfl) <| mv (.bool (x1.c == 46)) rfl ?_
 by_cases cc8 : x1.c = 46
 ·rw [if_pos cc8] at H
  refine cT rfl (eqT cc8) <| sq <| FW.anew [(4, pt b2)] ⟨rfl, trivial⟩ fun σ => rg <| u rfl (x_bld tz121 tpl121 rfl (.one rfl PC.nil) rfl) <| g rfl (o_stA tag121 S 0 rfl rfl rfl rfl (c1 rfl (c1 rfl (c1 rfl (c1 rfl c0)))) rfl fun w S => rt ?_)
  obtain rfl := si H
  exact ⟨_, ⟨_, _, _, rfl, rfl, ldA tag121 (S.loadW 0 rfl) rfl, rfl⟩, ⟨(.slice none 0 0), (.slice none 0 0), x0v0, I, hI, rfl, (SlR.nil _ _), (SlR.nil _ _), x0h0, (S.sel 3 [2] rfl)⟩⟩
 rw [if_neg cc8] at H
 refine cF rfl (eqF cc8) <| sq <| FW.anew [(0, pt bx0), (3, pt b1), (4, pt b2)] ⟨rfl, rfl, rfl, trivial⟩ fun σ => rg <| u rfl (x_fa tf124_0 rfl) <| u rfl (x_ld tsc21 rfl (S.load 1 rfl 0 rfl)) <| u rfl (x_bin rfl rfl rfl) <| mv (.bool (x1.c == 94)) rfl ?_
 by_cases cc9 : x1.c = 94
 ·rw [if_pos cc9] at H
  refine cT rfl (eqT cc9) <| sr <| u rfl (x_bld tz121 tpl121 rfl (.one rfl PC.nil) rfl) <| g rfl (o_stA tag121 S 0 rfl rfl rfl rfl (c1 rfl (c1 rfl (c1 rfl (c1 rfl c0)))) rfl fun w S => rt ?_)
  obtain rfl := si H
  exact ⟨_, ⟨_, _, _, rfl, rfl, ldA tag121 (S.loadW 0 rfl) rfl, rfl⟩, ⟨(.slice none 0 0), (.slice none 0 0), x0v0, I, hI, rfl, (SlR.nil _ _), (SlR.nil _ _), x0h0, (S.sel 3 [2] rfl)⟩⟩
 rw [if_neg cc9] at H
 refine cF rfl (eqF cc9) <| sr <| u rfl (x_fa tf124_0 rfl) <| u rfl (x_ld tsc21 rfl (S.load 1 rfl 0 rfl)) <| u rfl (x_bin rfl rfl rfl) <| mv (.bool (x1.c == 36)) rfl ?_
 by_cases cc10 : x1.c = 36
 ·rw [if_pos cc10] at H
  refine cT rfl (eqT cc10) <| sq <| FW.anew [(4, pt b2)] ⟨rfl, trivial⟩ fun σ => rg <| u rfl (x_bld tz121 tpl121 rfl (.one rfl PC.nil) rfl) <| g rfl (o_stA tag121 S 0 rfl rfl rfl rfl (c1 rfl (c1 rfl (c1 rfl (c1 rfl c0)))) rfl fun w S => rt ?_)
  obtain rfl := si H
  exact ⟨_, ⟨_, _, _, rfl, rfl, ldA tag121 (S.loadW 0 rfl) rfl, rfl⟩, ⟨(.slice none 0 0), (.slice none 0 0), x0v0, I, hI, rfl, (SlR.nil _ _), (SlR.nil _ _), x0h0, (S.sel 3 [2] rfl)⟩⟩
 rw [if_neg cc10] at H
 refine cF rfl (eqF cc10) <| sq <| FW.anew [(0, pt bx0), (3, pt b1), (4, pt b2)] ⟨rfl, rfl, rfl, trivial⟩ fun σ => rg <| u rfl (x_fa tf124_0 rfl) <| u rfl (x_ld tsc21 rfl (S.load 1 rfl 0 rfl)) <| u rfl (x_bin rfl rfl rfl) <| mv (.bool (x1.c == 91)) rfl ?_
 by_cases cc11 : x1.c = 91
 ·rw [if_pos cc11] at H
  refine cT rfl (eqT cc11) <| sr <| mv (pt bx0) rfl ?_
  obtain ⟨y12, hy13, H⟩ := obx H
  refine g rfl (cl fb149 (@rr_set.ok k x0 _ _ _ _ _ _ hG (S.sel 3 [2, 0, 1] rfl) x0h0 hy13) rfl ?_)
  rintro _ w ⟨y12_0v1, y12_0v2, y12_1v0, J14, hJ15, rfl, y12_0h1, y12_0h2, y12_1h0, S⟩
  have hI := hI.trans hJ15
  refine g rfl (o_stA tag121 S 1 rfl rfl rfl rfl (c1 rfl (c1 y12_0h1.one (c1 y12_0h2.one (c1 rfl c0)))) rfl fun w S => rt ?_)
  obtain rfl := si H
  exact ⟨_, ⟨_, _, _, rfl, rfl, ldA tag121 (S.loadW 1 rfl) rfl, rfl⟩, ⟨y12_0v1, y12_0v2, y12_1v0, J14, hI, rfl, y12_0h1, y12_0h2, y12_1h0, (S.sel 3 [0] rfl)⟩⟩
 rw [if_neg cc11] at H
 refine cF rfl (eqF cc11) <| sr <| u rfl (x_fa tf124_0 rfl) <| u rfl (x_ld tsc21 rfl (S.load 1 rfl 0 rfl)) <| u rfl (x_bin rfl rfl rfl) <| mv (.bool (x1.c == 40)) rfl ?_
 by_cases cc16 : x1.c = 40
 ·rw [if_pos cc16] at H
  refine cT rfl (eqT cc16) <| sq <| FW.anew [(0, pt bx0), (4, pt b2)] ⟨rfl, rfl, trivial⟩ fun σ => rg <| mv (pt bx0) rfl ?_
  obtain ⟨y17, hy18, H⟩ := obx H
  refine g rfl (cl fb82 (@ih_rr_choices k (by omega) x0 _ _ _ _ _ _ hG (S.sel 3 [2, 0, 1] rfl) x0h0 hy18) rfl ?_)
  rintro _ w ⟨y17_0v1, y17_0v2, y17_1v0, J19, hJ20, rfl, y17_0h1, y17_0h2, y17_1h0, S⟩
  have hI := hI.trans hJ20
  have hG := hG.mono hJ20
  refine g rfl (o_all tz121 S fun b21 w S => g rfl (o_stA tag121 S 0 rfl rfl rfl rfl (c1 rfl (c1 y17_0h1.one (c1 y17_0h2.one (c1 rfl c0)))) rfl fun w S => sq (rg (mv (pt bx0) rfl (mv (pt bx0) rfl (u rfl (x_nk rfl) (u rfl (x_fa tf117_1 rfl) (u rfl (x_ld tsc4 rfl (S.load 1 rfl 1 rfl)) (mv (.bool y17.2.bad) rfl ?_)))))))))
  by_cases cc22 : y17.2.bad = true
  ·rw [if_pos cc22] at H
   refine gn rfl rfl rfl cc22 <| gn rfl rfl rfl cc22 <| gn rfl rfl rfl cc22 <| gn rfl rfl rfl cc22 <| u rfl (x_pickTV (v := .bool true) rfl cc22 rfl) <| u rfl (x_nk rfl) <| u rfl (x_fa tf117_1 rfl) <| g rfl (o_st tone4 S 1 rfl rfl rfl rfl fun w S => sq (FW.anew [(4, pt b2), (5, pt b21)] ⟨rfl, rfl, trivial⟩ fun σ => rg (u rfl (x_ldA tag121 rfl (S.loadW 0 rfl) rfl) (g rfl (o_stA tag121 S 2 rfl rfl rfl rfl (c1 rfl (c1 y17_0h1.one (c1 y17_0h2.one (c1 rfl c0)))) rfl fun w S => rt ?_)))))
   obtain rfl := si H
   exact ⟨_, ⟨_, _, _, rfl, rfl, ldA tag121 (S.loadW 2 rfl) rfl, rfl⟩, ⟨y17_0v1, y17_0v2, y17_1v0, J19, hI, rfl, y17_0h1, y17_0h2, y17_1h0, (S.sel 4 [1] rfl)⟩⟩
  rw [if_neg cc22] at H
  refine gu rfl rfl rfl (vaF cc22) (x_movV (v := pt bx0) rfl) ?_
  obtain ⟨y23, hy24, H⟩ := obx H
  refine OK.gt rfl rfl rfl (vaF cc22) (cl fb115 (@rr_next.ok k y17.2 _ _ _ _ _ _ hG (S.sel 4 [1, 0, 2, 3] rfl) y17_1h0 hy24) rfl ?_)
  rintro _ w ⟨y23_1v0, J25, hJ26, rfl, y23_1h0, S⟩
  have y17_0h1 := y17_0h1.mono hJ26
  have y17_0h2 := y17_0h2.mono hJ26
  have hI := hI.trans hJ26
  refine gu rfl rfl rfl (vaF cc22) (x_fld tf124_0 tsc21 rfl rfl) <| gu rfl rfl rfl (vaF cc22) (x_bin rfl rfl rfl) <| u rfl (x_pickFV (v := .bool (y23.1.c != 41)) rfl (vaF cc22) rfl) <| u rfl (x_nk rfl) <| u rfl (x_fa tf117_1 rfl) <| g rfl (o_st tone4 S 0 rfl rfl rfl rfl fun w S => sq (FW.anew [(4, pt b2), (5, pt b21)] ⟨rfl, rfl, trivial⟩ fun σ => rg (u rfl (x_ldA tag121 rfl (S.loadW 1 rfl) rfl) (g rfl (o_stA tag121 S 2 rfl rfl rfl rfl (c1 rfl (c1 y17_0h1.one (c1 y17_0h2.one (c1 rfl c0)))) rfl fun w S => rt ?_)))))
  obtain rfl := si H
  exact ⟨_, ⟨_, _, _, rfl, rfl, ldA tag121 (S.loadW 2 rfl) rfl, rfl⟩, ⟨y17_0v1, y17_0v2, y23_1v0, J25, hI, rfl, y17_0h1, y17_0h2, y23_1h0, (S.sel 4 [0] rfl)⟩⟩
 rw [if_neg cc16] at H
 refine cF rfl (eqF cc16) <| sk <| sq <| FW.anew [(0, pt bx0), (4, pt b2)] ⟨rfl, rfl, trivial⟩ fun σ => rg <| mv (pt bx0) rfl <| u rfl (x_nk rfl) <| u rfl (x_fa tf117_1 rfl) <| g rfl (o_st tone4 S 2 rfl rfl rfl rfl fun w S => sq (rg (u rfl (x_bld tz121 tpl121 rfl PC.nil rfl) (g rfl (o_stA tag121 S 0 rfl rfl rfl rfl (c1 rfl (c1 rfl (c1 rfl (c1 rfl c0)))) rfl fun w S => rt ?_)))))
 obtain rfl := si H
 exact ⟨_, ⟨_, _, _, rfl, rfl, ldA tag121 (S.loadW 0 rfl) rfl, rfl⟩, ⟨(.slice none 0 0), (.slice none 0 0), x0v0, I, hI, rfl, (SlR.nil _ _), (SlR.nil _ _), x0h0, (S.sel 3 [2] rfl)⟩⟩
theorem rr_atom.zero : rr_atom.C 0 := by
  intro _ _ _ _ _ _ _ _ _ _ _ H; cases H
theorem rr_choices.grp : ∀ k m, m ≤ k → rr_choices.C m ∧ rr_row.C m ∧ rr_atom.C m
  | 0, m, h => by
    obtain rfl : m = 0 := by omega
    exact ⟨rr_choices.zero, rr_row.zero, rr_atom.zero⟩
  | k + 1, 0, _ => ⟨rr_choices.zero, rr_row.zero, rr_atom.zero⟩
  | k + 1, m + 1, h => ⟨rr_choices.step m (fun i hi => (rr_choices.grp k i (by omega)).2.1), rr_row.step m (fun i hi => (rr_choices.grp k i (by omega)).2.2), rr_atom.step m (fun i hi => (rr_choices.grp k i (by omega)).1)⟩
theorem rr_choices.ok (k : Nat) : rr_choices.C k := (rr_choices.grp k k (Nat.le_refl k)).1
def regex_Expr_put.f (k : Nat) (x0 : T_regex_Expr) (x1 : T_regex_step) : Option (Int × T_regex_Expr) := ((app 56 x0.prog [x1]).bind fun l7 => (some ((i64 ((l7.length : Int) - 1)), (T_regex_Expr.mk x0.top l7))))
abbrev regex_Expr_put.C (k : Nat) : Prop := ∀ {x0 : T_regex_Expr} {x1 : T_regex_step} {x0v1 : Value} {x0v2 : Value} {x0v4 : Value} {cx0_4 : List Value} {x1v1 : Value} {bx0 : Nat} {F : List It} {I : IMem} {w : World} {r : Int × T_regex_Expr}, Glob I → Own I w (.bk bx0 128 [.int .i64 x0.top.kind, x0v1, x0v2, .bool x0.top.not, x0v4] :: .av x0v4 132 6 cx0_4 :: F) → SlR R_regex_piece I x0v1 x0.top.parts → SlR R_regex_span I x0v2 x0.top.spans → Flat R_regex_step I cx0_4 x0.prog → SlR R_regex_span I x1v1 x1.spans → regex_Expr_put.f k x0 x1 = some r →
    Calls Tryz.prog 117 #[pt bx0, .agg #[.int .i64 x1.op, x1v1, .bool x1.all, .bool x1.not, .int .i64 x1.to_.1, .int .i64 x1.to_.2]] w fun e w' => ∃ v, e = .returned v ∧ ∃ (y_1v1 : Value) (y_1v2 : Value) (y_1v4 : Value) (cy_1_4 : List Value) (J : IMem), I.le J ∧ v = .int .i64 r.1 ∧ SlR R_regex_piece J y_1v1 r.2.top.parts ∧ SlR R_regex_span J y_1v2 r.2.top.spans ∧ Flat R_regex_step J cy_1_4 r.2.prog ∧ Own J w' (.bk bx0 128 [.int .i64 r.2.top.kind, y_1v1, y_1v2, .bool r.2.top.not, y_1v4] :: .av y_1v4 132 6 cy_1_4 :: F)
theorem regex_Expr_put.ok (k : Nat) : regex_Expr_put.C k := by
 intro x0 x1 x0v1 x0v2 x0v4 cx0_4 x1v1 bx0 F I w r hG S x0h1 x0h2 x0h4 x1h1 H
 have hI := ilr I
 rw [regex_Expr_put.f] at H
 refine Calls.ofFW (args := [pt bx0, .agg #[.int .i64 x1.op, x1v1, .bool x1.all, .bool x1.not, .int .i64 x1.to_.1, .int .i64 x1.to_.2]]) Tryz.func117 rfl rfl <| sr <| g rfl (o_boxA rfl S fun b1 w S => mv (.int .i64 0) rfl (sq ?_))
 have S := S.drew
 refine FW.regionD mixed ?_
 have hO := Hold.nil (w := { w with drawn := w.drawn + 1 })
 refine am 0 (pt bx0) rfl (by kernel_rfl) hO <| am 1 (pt bx0) rfl (by kernel_rfl) hO <| ap 2 rfl (by kernel_rfl) hO (fun w => x_nk rfl) <| ap 3 rfl (by kernel_rfl) hO (fun w => x_fa tf128_1 rfl) ?_
 have hR2 := ilr I
 refine ak (Stab I [.bk bx0 128 [.int .i64 x0.top.kind, x0v1, x0v2, .bool x0.top.not, x0v4]]) 4 rfl (by kernel_rfl) hO (Stab.of S 1 rfl hR2) (fun w hS => x_ld tsc126 rfl (hS.load 0 rfl 4 rfl)) fun hO => ak (Stab I [.bk b1 132 [.int .i64 x1.op, x1v1, .bool x1.all, .bool x1.not, .int .i64 x1.to_.1, .int .i64 x1.to_.2]]) 5 rfl (by kernel_rfl) hO (Stab.of S 0 rfl hR2) (fun w hS => x_ldA tag132 rfl (hS.loadW 0 rfl) rfl) fun hO => AQ.one 6 [5, 4] [false, true] (by kernel_rfl) rfl (by kernel_rfl) <| g rfl (o_bsl tsl126 tz132 rfl rfl rfl rfl (.agg PC.nil) rfl S fun b3 w S => ?_)
 obtain ⟨J4, hJ6, S, h5⟩ := S.freeze (r := R_regex_step) (l := [x1]) 0 rfl ⟨[.int .i64 x1.op, x1v1, .bool x1.all, .bool x1.not, .int .i64 x1.to_.1, .int .i64 x1.to_.2], _, rfl, ⟨x1v1, rfl, x1h1⟩, rfl⟩ rfl rfl
 have x0h1 := x0h1.mono hJ6
 have x0h2 := x0h2.mono hJ6
 have x0h4 := x0h4.mono hJ6
 have hI := hI.trans hJ6
 have hR2 := hR2.trans hJ6
 refine andI (Hold.cons (Stab.of S 2 rfl hR2) Hold.nil) fun hO => AQ.one 7 [4] [false] (by kernel_rfl) rfl (by kernel_rfl) ?_
 obtain ⟨l7, h9, H⟩ := obx H
 refine g rfl (o_appV (r := R_regex_step) tsl126 rfl tz132 rfl rfl S 3 rfl rfl x0h4 h5 h9 fun v8 w a11 S h10 => andI Hold.nil fun hO => ap 8 rfl (by kernel_rfl) hO (fun w => x_nk rfl) (ap 9 rfl (by kernel_rfl) hO (fun w => x_fa tf128_1 rfl) (AQ.one 10 [] [] (by kernel_rfl) rfl (by kernel_rfl) (g rfl (o_st tone126 S 2 rfl rfl rfl (av_one S 3 rfl) fun w S => andI Hold.nil fun hO => AQ.done (by kernel_rfl) (sq (FW.anew [(0, pt bx0)] ⟨rfl, trivial⟩ fun σ => rg (mv (pt bx0) rfl (u rfl (x_nk rfl) (u rfl (x_fa tf128_1 rfl) (u rfl (x_ld tsc126 rfl (S.load 2 rfl 4 rfl)) (u rfl (x_lenV (r := R_regex_step) tsl126 rfl rfl S 3 rfl h10) (u rfl (x_bin rfl rfl rfl) (mv (.int .i64 (i64 ((l7.length : Int) - 1))) rfl (rt ?_)))))))))))))))
 obtain rfl := si H
 exact ⟨_, ⟨_, rfl, rfl⟩, ⟨x0v1, x0v2, v8, a11, J4, hI, rfl, x0h1, x0h2, h10, (S.sel 4 [2, 3] rfl)⟩⟩
end Go.Proofs.YtafnenafbognkaaGreatDoor
namespace Go.Proofs.YtafnenafbognkaaGreatDoor
open Sp
set_option maxRecDepth 100000
set_option maxHeartbeats 4000000
mutual
def regex_Expr_compile.l0 : Nat → T_pc → Int → Int → (List T_pc) → (List T_regex_span) → Bool → (List T_regex_step) → Option (Int × (List T_pc) × (List T_regex_span) × Bool × (List T_regex_step))
  | 0, _, _, _, _, _, _, _ => none
  | k + 1, x1, n4, n5, l6, l9, b12, l13 => (if n4 < (x1.parts.length : Int) then ((lat x1.parts n4).bind fun y39 => ((regex_Expr_compile.f k (T_regex_Expr.mk (T_pc.mk n5 l6 l9 b12) l13) y39).bind fun y47 => (regex_Expr_compile.l0 k x1 (i64 (n4 + 1)) y47.top.kind y47.top.parts y47.top.spans y47.top.not y47.prog))) else (some (n5, l6, l9, b12, l13)))
def regex_Expr_compile.f : Nat → T_regex_Expr → T_pc → Option T_regex_Expr
  | 0, _, _ => none
  | k + 1, x0, x1 => (if x1.kind = 0 then ((regex_Expr_compile.l0 k x1 0 x0.top.kind x0.top.parts x0.top.spans x0.top.not x0.prog).bind fun (n24, l25, l28, b31, l32) => (some (T_regex_Expr.mk (T_pc.mk n24 l25 l28 b31) l32))) else (if x1.kind = 1 then ((regex_Expr_choices.f k x0 x1.parts).bind fun y52 => (some y52)) else ((if x1.kind = 2 then (some (x1.kind == 2)) else (some (x1.kind == 4))).bind fun b57 => (if b57 = true then ((regex_Expr_put.f k x0 (T_regex_step.mk 0 x1.spans false x1.not (0, 0))).bind fun y63 => (some y63.2)) else (if x1.kind = 3 then ((regex_Expr_put.f k x0 (T_regex_step.mk 0 [] true false (0, 0))).bind fun y68 => (some y68.2)) else (if x1.kind = 5 then ((regex_Expr_put.f k x0 (T_regex_step.mk 2 [] false false (0, 0))).bind fun y73 => (some y73.2)) else (if x1.kind = 6 then ((regex_Expr_put.f k x0 (T_regex_step.mk 3 [] false false (0, 0))).bind fun y78 => (some y78.2)) else (if x1.kind = 8 then ((lat x1.parts 0).bind fun y83 => ((regex_Expr_compile.f k x0 y83).bind fun y90 => ((regex_Expr_put.f k y90 (T_regex_step.mk 1 [] false false (0, 0))).bind fun y94 => ((lat y94.2.prog y94.1).bind fun y99 => (some (T_regex_Expr.mk y94.2.top (y94.2.prog.set y94.1.toNat (T_regex_step.mk y99.op y99.spans y99.all y99.not ((x0.prog.length : Int), (y94.2.prog.length : Int)))))))))) else ((regex_Expr_put.f k x0 (T_regex_step.mk 1 [] false false (0, 0))).bind fun y109 => ((lat y109.2.prog y109.1).bind fun y114 => ((lat x1.parts 0).bind fun y124 => ((regex_Expr_compile.f k (T_regex_Expr.mk y109.2.top (y109.2.prog.set y109.1.toNat (T_regex_step.mk y114.op y114.spans y114.all y114.not ((y109.2.prog.length : Int), y114.to_.2)))) y124).bind fun y131 => ((if x1.kind = 7 then ((regex_Expr_put.f k y131 (T_regex_step.mk 1 [] false false (0, 0))).bind fun y153 => ((lat y153.2.prog y153.1).bind fun y157 => (some (y153.2.top.kind, y153.2.top.parts, y153.2.top.spans, y153.2.top.not, (y153.2.prog.set y153.1.toNat (T_regex_step.mk y157.op y157.spans y157.all y157.not (y109.1, y109.1))))))) else (some (y131.top.kind, y131.top.parts, y131.top.spans, y131.top.not, y131.prog))).bind fun (n136, l137, l140, b143, l144) => ((lat l144 y109.1).bind fun y168 => (some (T_regex_Expr.mk (T_pc.mk n136 l137 l140 b143) (l144.set y109.1.toNat (T_regex_step.mk y168.op y168.spans y168.all y168.not (y168.to_.1, (l144.length : Int))))))))))))))))))))
def regex_Expr_choices.l0 : Nat → (List T_pc) → (List Int) → Int → Int → (List T_pc) → (List T_regex_span) → Bool → (List T_regex_step) → Option ((List Int) × Int × (List T_pc) × (List T_regex_span) × Bool × (List T_regex_step))
  | 0, _, _, _, _, _, _, _, _ => none
  | k + 1, x1, l3, n6, n7, l8, l11, b14, l15 => (if n6 < (x1.length : Int) then ((lat x1 n6).bind fun y44 => (if n6 = (i64 ((x1.length : Int) - 1)) then ((regex_Expr_compile.f k (T_regex_Expr.mk (T_pc.mk n7 l8 l11 b14) l15) y44).bind fun y53 => (some (l3, y53.top.kind, y53.top.parts, y53.top.spans, y53.top.not, y53.prog))) else ((regex_Expr_put.f k (T_regex_Expr.mk (T_pc.mk n7 l8 l11 b14) l15) (T_regex_step.mk 1 [] false false (0, 0))).bind fun y57 => ((lat y57.2.prog y57.1).bind fun y62 => ((regex_Expr_compile.f k (T_regex_Expr.mk y57.2.top (y57.2.prog.set y57.1.toNat (T_regex_step.mk y62.op y62.spans y62.all y62.not ((y57.2.prog.length : Int), y62.to_.2)))) y44).bind fun y72 => ((regex_Expr_put.f k y72 (T_regex_step.mk 1 [] false false (0, 0))).bind fun y76 => ((app 8 l3 [y76.1]).bind fun l84 => ((lat y76.2.prog y57.1).bind fun y91 => (regex_Expr_choices.l0 k x1 l84 (i64 (n6 + 1)) y76.2.top.kind y76.2.top.parts y76.2.top.spans y76.2.top.not (y76.2.prog.set y57.1.toNat (T_regex_step.mk y91.op y91.spans y91.all y91.not (y91.to_.1, (y76.2.prog.length : Int))))))))))))) else (some (l3, n7, l8, l11, b14, l15)))
def regex_Expr_choices.l1 : Nat → (List Int) → Int → (List T_regex_step) → Option (List T_regex_step)
  | 0, _, _, _ => none
  | k + 1, l26, n102, l103 => (if n102 < (l26.length : Int) then ((lat l26 n102).bind fun y121 => ((lat l103 y121).bind fun y129 => (regex_Expr_choices.l1 k l26 (i64 (n102 + 1)) (l103.set y121.toNat (T_regex_step.mk y129.op y129.spans y129.all y129.not ((l103.length : Int), (l103.length : Int))))))) else (some l103))
def regex_Expr_choices.f : Nat → T_regex_Expr → (List T_pc) → Option T_regex_Expr
  | 0, _, _ => none
  | k + 1, x0, x1 => ((regex_Expr_choices.l0 k x1 [] 0 x0.top.kind x0.top.parts x0.top.spans x0.top.not x0.prog).bind fun (l26, n29, l30, l33, b36, l37) => ((regex_Expr_choices.l1 k l26 0 l37).bind fun l114 => (some (T_regex_Expr.mk (T_pc.mk n29 l30 l33 b36) l114))))
end
abbrev regex_Expr_compile.C (k : Nat) : Prop := ∀ {x0 : T_regex_Expr} {x1 : T_pc} {x0v1 : Value} {x0v2 : Value} {x0v4 : Value} {cx0_4 : List Value} {x1v1 : Value} {x1v2 : Value} {bx0 : Nat} {F : List It} {I : IMem} {w : World} {r : T_regex_Expr}, Glob I → Own I w (.bk bx0 128 [.int .i64 x0.top.kind, x0v1, x0v2, .bool x0.top.not, x0v4] :: .av x0v4 132 6 cx0_4 :: F) → SlR R_regex_piece I x0v1 x0.top.parts → SlR R_regex_span I x0v2 x0.top.spans → Flat R_regex_step I cx0_4 x0.prog → SlR R_regex_piece I x1v1 x1.parts → SlR R_regex_span I x1v2 x1.spans → regex_Expr_compile.f k x0 x1 = some r →
    Calls Tryz.prog 84 #[pt bx0, .agg #[.int .i64 x1.kind, x1v1, x1v2, .bool x1.not]] w fun e w' => ∃ v, e = .returned v ∧ ∃ (y_0v1 : Value) (y_0v2 : Value) (y_0v4 : Value) (cy_0_4 : List Value) (J : IMem), I.le J ∧ v = .tuple #[] ∧ SlR R_regex_piece J y_0v1 r.top.parts ∧ SlR R_regex_span J y_0v2 r.top.spans ∧ Flat R_regex_step J cy_0_4 r.prog ∧ Own J w' (.bk bx0 128 [.int .i64 r.top.kind, y_0v1, y_0v2, .bool r.top.not, y_0v4] :: .av y_0v4 132 6 cy_0_4 :: F)
abbrev regex_Expr_choices.C (k : Nat) : Prop := ∀ {x0 : T_regex_Expr} {x1 : (List T_pc)} {x0v1 : Value} {x0v2 : Value} {x0v4 : Value} {cx0_4 : List Value} {vx1 : Value} {bx0 : Nat} {F : List It} {I : IMem} {w : World} {r : T_regex_Expr}, Glob I → Own I w (.bk bx0 128 [.int .i64 x0.top.kind, x0v1, x0v2, .bool x0.top.not, x0v4] :: .av x0v4 132 6 cx0_4 :: F) → SlR R_regex_piece I x0v1 x0.top.parts → SlR R_regex_span I x0v2 x0.top.spans → Flat R_regex_step I cx0_4 x0.prog → SlR R_regex_piece I vx1 x1 → regex_Expr_choices.f k x0 x1 = some r →
    Calls Tryz.prog 116 #[pt bx0, vx1] w fun e w' => ∃ v, e = .returned v ∧ ∃ (y_0v1 : Value) (y_0v2 : Value) (y_0v4 : Value) (cy_0_4 : List Value) (J : IMem), I.le J ∧ v = .tuple #[] ∧ SlR R_regex_piece J y_0v1 r.top.parts ∧ SlR R_regex_span J y_0v2 r.top.spans ∧ Flat R_regex_step J cy_0_4 r.prog ∧ Own J w' (.bk bx0 128 [.int .i64 r.top.kind, y_0v1, y_0v2, .bool r.top.not, y_0v4] :: .av y_0v4 132 6 cy_0_4 :: F)
theorem regex_Expr_compile.step (k : Nat) (ih_regex_Expr_compile : ∀ m, m ≤ k → regex_Expr_compile.C m) (ih_regex_Expr_choices : ∀ m, m ≤ k → regex_Expr_choices.C m) : regex_Expr_compile.C (k + 1) := by
 intro x0 x1 x0v1 x0v2 x0v4 cx0_4 x1v1 x1v2 bx0 F I w r hG S x0h1 x0h2 x0h4 x1h1 x1h2 H
 have hI := ilr I
 rw [regex_Expr_compile.f] at H
 refine Calls.ofFW (args := [pt bx0, .agg #[.int .i64 x1.kind, x1v1, x1v2, .bool x1.not]]) Tryz.func84 rfl rfl <| sr <| g rfl (o_boxA rfl S fun b1 w S => sq (rg (u rfl (x_fa tf121_0 rfl) (u rfl (x_ld tsc3 rfl (S.load 0 rfl 0 rfl)) (bk (sq (rg (u rfl (x_bin rfl rfl rfl) (mv (.bool (x1.kind == 0)) rfl ?_)))))))))
 by_cases cc2 : x1.kind = 0
 ·rw [if_pos cc2] at H
  refine cT rfl (eqT cc2) <| sr <| u rfl (x_fa tf121_1 rfl) <| u rfl (x_ld tsc118 rfl (S.load 0 rfl 1 rfl)) <| u rfl (x_lenD (r := R_regex_piece) tsl118 x1h1) <| mv (.int .i64 0) rfl <| bk ?_
  obtain ⟨o20, hl22, HO21⟩ := obx H
  refine FW.cutX 1 (fun σ w => ∃ (n24 : Int) (l25 : (List T_pc)) (l28 : (List T_regex_span)) (b31 : Bool) (l32 : (List T_regex_step)) (v26 : Value) (v29 : Value) (v33 : Value) (a34 : List Value) (J23 : IMem), (n24, l25, l28, b31, l32) = o20 ∧ Has σ [] ∧ I.le J23 ∧ Own J23 w (.bk b1 121 [.int .i64 x1.kind, x1v1, x1v2, .bool x1.not] :: .bk bx0 128 [.int .i64 n24, v26, v29, .bool b31, v33] :: .av v33 132 6 a34 :: F) ∧ SlR R_regex_piece J23 v26 l25 ∧ SlR R_regex_span J23 v29 l28 ∧ Flat R_regex_step J23 a34 l32) ?_ ?_
  ·refine FW.loop k (FL.ind (fun q σ w => ∃ (n4 : Int) (n5 : Int) (l6 : (List T_pc)) (l9 : (List T_regex_span)) (b12 : Bool) (l13 : (List T_regex_step)) (v7 : Value) (v10 : Value) (v14 : Value) (a15 : List Value) (J3 : IMem), regex_Expr_compile.l0 q x1 n4 n5 l6 l9 b12 l13 = some o20 ∧ q ≤ k ∧ Has σ [(0, pt bx0), (66, x1v1), (67, .int .i64 (x1.parts.length : Int)), (68, .int .i64 n4)] ∧ I.le J3 ∧ Own J3 w (.bk b1 121 [.int .i64 x1.kind, x1v1, x1v2, .bool x1.not] :: .bk bx0 128 [.int .i64 n5, v7, v10, .bool b12, v14] :: .av v14 132 6 a15 :: F) ∧ SlR R_regex_piece J3 v7 l6 ∧ SlR R_regex_span J3 v10 l9 ∧ Flat R_regex_step J3 a15 l13) ?_ ?_ k k _ _ (Nat.le_refl _) ⟨0, x0.top.kind, x0.top.parts, x0.top.spans, x0.top.not, x0.prog, x0v1, x0v2, x0v4, cx0_4, I, hl22, Nat.le_refl _, ⟨rfl, rfl, rfl, rfl, trivial⟩, (ilr _), S, x0h1, x0h2, x0h4⟩)
   ·rintro σ w ⟨n4, n5, l6, l9, b12, l13, v7, v10, v14, a15, J3, H, _⟩; cases H
   rintro q18 σ w ⟨n4, n5, l6, l9, b12, l13, v7, v10, v14, a15, J3, H, hq37, hσ, hL19, S, h8, h11, h16⟩
   have x1h1 := x1h1.mono hL19
   have hG := hG.mono hL19
   rw [hσ.eq]
   rw [regex_Expr_compile.l0] at H
   refine sr <| u rfl (x_bin rfl rfl rfl) <| sq ?_
   by_cases cc38 : n4 < (x1.parts.length : Int)
   ·rw [if_pos cc38] at H
    refine cT rfl (deT cc38) <| sk <| sq <| bk <| sq <| rg ?_
    obtain ⟨y39, h40, H⟩ := obx H
    refine g rfl (o_ia (r := R_regex_piece) tsl118 rfl rfl x1h1 rfl h40 fun b41 o42 cs43 hr44 hc45 => ?_)
    obtain ⟨y39v1, y39v2, rfl, y39h1, y39h2⟩ := R_regex_piece.un hr44
    refine u rfl (x_ldA tag121 rfl (S.loadI hc45) rfl) <| g rfl (o_all tz121 S fun b46 w S => g rfl (o_stA tag121 S 0 rfl rfl rfl rfl (c1 rfl (c1 y39h1.one (c1 y39h2.one (c1 rfl c0)))) rfl fun w S => rg (mv (pt bx0) rfl (u rfl (x_ldA tag121 rfl (S.loadW 0 rfl) rfl) ?_))))
    obtain ⟨y47, hy48, H⟩ := obx H
    refine g rfl (cl fb84 (@ih_regex_Expr_compile q18 (by omega) (T_regex_Expr.mk (T_pc.mk n5 l6 l9 b12) l13) y39 _ _ _ _ _ _ _ _ _ _ _ hG (S.sel 4 [2, 3, 0, 1] rfl) h8 h11 h16 y39h1 y39h2 hy48) rfl ?_)
    rintro _ w ⟨y47_0v1, y47_0v2, y47_0v4, cy47_0_4, J49, hJ50, rfl, y47_0h1, y47_0h2, y47_0h4, S⟩
    have hL19 := hL19.trans hJ50
    refine FW.anew [(0, pt bx0), (66, x1v1), (67, .int .i64 (x1.parts.length : Int)), (68, .int .i64 n4)] ⟨rfl, rfl, rfl, rfl, trivial⟩ fun σ => rg <| u rfl (x_bin rfl rfl rfl) <| mv (.int .i64 (i64 (n4 + 1))) rfl ⟨q18, Nat.le_refl _, (i64 (n4 + 1)), y47.top.kind, y47.top.parts, y47.top.spans, y47.top.not, y47.prog, y47_0v1, y47_0v2, y47_0v4, cy47_0_4, J49, H, (Nat.le_of_succ_le hq37), ⟨rfl, rfl, rfl, rfl, trivial⟩, hL19, (S.sel 4 [3, 0, 1] rfl), y47_0h1, y47_0h2, y47_0h4⟩
   rw [if_neg cc38] at H
   refine cF rfl (deF cc38) <| ex ⟨n5, l6, l9, b12, l13, v7, v10, v14, a15, J3, (si H), trivial, hL19, S, h8, h11, h16⟩
  rintro σ w ⟨n24, l25, l28, b31, l32, v26, v29, v33, a34, J23, ho, hσ, hL19, S, h27, h30, h35⟩
  subst ho
  have H := HO21
  try dsimp only at H
  have hI := hI.trans hL19
  rw [hσ.eq]
  obtain rfl := si H
  exact ⟨_, rfl, ⟨v26, v29, v33, a34, J23, hI, rfl, h27, h30, h35, (S.sel 3 [1, 2] rfl)⟩⟩
 rw [if_neg cc2] at H
 refine cF rfl (eqF cc2) <| sr <| u rfl (x_bin rfl rfl rfl) <| mv (.bool (x1.kind == 1)) rfl ?_
 by_cases cc51 : x1.kind = 1
 ·rw [if_pos cc51] at H
  refine cT rfl (eqT cc51) <| FW.anew [(0, pt bx0), (3, pt b1)] ⟨rfl, rfl, trivial⟩ fun σ => rg <| mv (pt bx0) rfl <| u rfl (x_fa tf121_1 rfl) <| u rfl (x_ld tsc118 rfl (S.load 0 rfl 1 rfl)) ?_
  obtain ⟨y52, hy53, H⟩ := obx H
  refine g rfl (cl fb116 (@ih_regex_Expr_choices k (by omega) x0 x1.parts _ _ _ _ _ _ _ _ _ _ hG (S.sel 3 [1, 2, 0] rfl) x0h1 x0h2 x0h4 x1h1 hy53) rfl ?_)
  rintro _ w ⟨y52_0v1, y52_0v2, y52_0v4, cy52_0_4, J54, hJ55, rfl, y52_0h1, y52_0h2, y52_0h4, S⟩
  have hI := hI.trans hJ55
  obtain rfl := si H
  exact ⟨_, rfl, ⟨y52_0v1, y52_0v2, y52_0v4, cy52_0_4, J54, hI, rfl, y52_0h1, y52_0h2, y52_0h4, (S.sel 3 [0, 1] rfl)⟩⟩
 rw [if_neg cc51] at H
 refine cF rfl (eqF cc51) <| sq <| sq <| FW.anew [(0, pt bx0), (3, pt b1), (11, .int .i64 x1.kind)] ⟨rfl, rfl, rfl, trivial⟩ fun σ => rg <| u rfl (x_bin rfl rfl rfl) <| mv (.bool (x1.kind == 2)) rfl ?_
 obtain ⟨o58, H, HO59⟩ := obx H
 have hL60 := ilr I
 refine FW.cutN (fun σ w => ∃ (b57 : Bool) (J56 : IMem), b57 = o58 ∧ Has σ [(0, pt bx0), (3, pt b1), (11, .int .i64 x1.kind), (82, .bool b57)] ∧ I.le J56 ∧ Own J56 w (.bk b1 121 [.int .i64 x1.kind, x1v1, x1v2, .bool x1.not] :: .bk bx0 128 [.int .i64 x0.top.kind, x0v1, x0v2, .bool x0.top.not, x0v4] :: .av x0v4 132 6 cx0_4 :: F)) ?_ ?_
 ·by_cases cc61 : x1.kind = 2
  ·rw [if_pos cc61] at H
   refine cT rfl (eqT cc61) <| sk ⟨(x1.kind == 2), I, (si H), ⟨rfl, rfl, rfl, rfl, trivial⟩, hL60, S⟩
  rw [if_neg cc61] at H
  refine cF rfl (eqF cc61) <| rg <| u rfl (x_bin rfl rfl rfl) <| mv (.bool (x1.kind == 4)) rfl ⟨(x1.kind == 4), I, (si H), ⟨rfl, rfl, rfl, rfl, trivial⟩, hL60, S⟩
 rintro σ w ⟨b57, J56, ho, hσ, hL60, S⟩
 subst ho
 have H := HO59
 have x1h1 := x1h1.mono hL60
 have x1h2 := x1h2.mono hL60
 have x0h1 := x0h1.mono hL60
 have x0h2 := x0h2.mono hL60
 have x0h4 := x0h4.mono hL60
 have hI := hI.trans hL60
 have hG := hG.mono hL60
 rw [hσ.eq]
 by_cases cc62 : b57 = true
 ·rw [if_pos cc62] at H
  refine cT rfl cc62 <| rg <| mv (pt bx0) rfl <| u rfl (x_fa tf121_2 rfl) <| u rfl (x_ld tsc119 rfl (S.load 0 rfl 2 rfl)) <| u rfl (x_fa tf121_3 rfl) <| u rfl (x_ld tsc4 rfl (S.load 0 rfl 3 rfl)) <| u rfl (x_bld tz132 tpl132 rfl (.one rfl (.one x1h2.one (.one rfl PC.nil))) rfl) ?_
  obtain ⟨y63, hy64, H⟩ := obx H
  refine g rfl (cl fb117 (@regex_Expr_put.ok k x0 (T_regex_step.mk 0 x1.spans false x1.not (0, 0)) _ _ _ _ _ _ _ _ _ _ hG (S.sel 3 [1, 2, 0] rfl) x0h1 x0h2 x0h4 x1h2 hy64) rfl ?_)
  rintro _ w ⟨y63_1v1, y63_1v2, y63_1v4, cy63_1_4, J65, hJ66, rfl, y63_1h1, y63_1h2, y63_1h4, S⟩
  have hI := hI.trans hJ66
  obtain rfl := si H
  exact ⟨_, rfl, ⟨y63_1v1, y63_1v2, y63_1v4, cy63_1_4, J65, hI, rfl, y63_1h1, y63_1h2, y63_1h4, (S.sel 3 [0, 1] rfl)⟩⟩
 rw [if_neg cc62] at H
 refine cF rfl (vaF cc62) <| sr <| u rfl (x_bin rfl rfl rfl) <| mv (.bool (x1.kind == 3)) rfl ?_
 by_cases cc67 : x1.kind = 3
 ·rw [if_pos cc67] at H
  refine cT rfl (eqT cc67) <| rg <| mv (pt bx0) rfl <| u rfl (x_bld tz132 tpl132 rfl (.one rfl (.one rfl PC.nil)) rfl) ?_
  obtain ⟨y68, hy69, H⟩ := obx H
  refine g rfl (cl fb117 (@regex_Expr_put.ok k x0 (T_regex_step.mk 0 [] true false (0, 0)) _ _ _ _ _ _ _ _ _ _ hG (S.sel 3 [1, 2, 0] rfl) x0h1 x0h2 x0h4 (SlR.nil _ _) hy69) rfl ?_)
  rintro _ w ⟨y68_1v1, y68_1v2, y68_1v4, cy68_1_4, J70, hJ71, rfl, y68_1h1, y68_1h2, y68_1h4, S⟩
  have hI := hI.trans hJ71
  obtain rfl := si H
  exact ⟨_, rfl, ⟨y68_1v1, y68_1v2, y68_1v4, cy68_1_4, J70, hI, rfl, y68_1h1, y68_1h2, y68_1h4, (S.sel 3 [0, 1] rfl)⟩⟩
 rw [if_neg cc67] at H
 refine cF rfl (eqF cc67) <| sr <| u rfl (x_bin rfl rfl rfl) <| mv (.bool (x1.kind == 5)) rfl ?_
 by_cases cc72 : x1.kind = 5
 ·rw [if_pos cc72] at H
  refine cT rfl (eqT cc72) <| rg <| mv (pt bx0) rfl <| u rfl (x_bld tz132 tpl132 rfl (.one rfl PC.nil) rfl) ?_
  obtain ⟨y73, hy74, H⟩ := obx H
  refine g rfl (cl fb117 (@regex_Expr_put.ok k x0 (T_regex_step.mk 2 [] false false (0, 0)) _ _ _ _ _ _ _ _ _ _ hG (S.sel 3 [1, 2, 0] rfl) x0h1 x0h2 x0h4 (SlR.nil _ _) hy74) rfl ?_)
  rintro _ w ⟨y73_1v1, y73_1v2, y73_1v4, cy73_1_4, J75, hJ76, rfl, y73_1h1, y73_1h2, y73_1h4, S⟩
  have hI := hI.trans hJ76
  obtain rfl := si H
  exact ⟨_, rfl, ⟨y73_1v1, y73_1v2, y73_1v4, cy73_1_4, J75, hI, rfl, y73_1h1, y73_1h2, y73_1h4, (S.sel 3 [0, 1] rfl)⟩⟩
 rw [if_neg cc72] at H
 refine cF rfl (eqF cc72) <| sr <| u rfl (x_bin rfl rfl rfl) <| mv (.bool (x1.kind == 6)) rfl ?_
 by_cases cc77 : x1.kind = 6
 ·rw [if_pos cc77] at H
  refine cT rfl (eqT cc77) <| rg <| mv (pt bx0) rfl <| u rfl (x_bld tz132 tpl132 rfl (.one rfl PC.nil) rfl) ?_
  obtain ⟨y78, hy79, H⟩ := obx H
  refine g rfl (cl fb117 (@regex_Expr_put.ok k x0 (T_regex_step.mk 3 [] false false (0, 0)) _ _ _ _ _ _ _ _ _ _ hG (S.sel 3 [1, 2, 0] rfl) x0h1 x0h2 x0h4 (SlR.nil _ _) hy79) rfl ?_)
  rintro _ w ⟨y78_1v1, y78_1v2, y78_1v4, cy78_1_4, J80, hJ81, rfl, y78_1h1, y78_1h2, y78_1h4, S⟩
  have hI := hI.trans hJ81
  obtain rfl := si H
  exact ⟨_, rfl, ⟨y78_1v1, y78_1v2, y78_1v4, cy78_1_4, J80, hI, rfl, y78_1h1, y78_1h2, y78_1h4, (S.sel 3 [0, 1] rfl)⟩⟩
 rw [if_neg cc77] at H
 refine cF rfl (eqF cc77) <| sr <| u rfl (x_bin rfl rfl rfl) <| mv (.bool (x1.kind == 8)) rfl ?_
 by_cases cc82 : x1.kind = 8
 ·rw [if_pos cc82] at H
  refine cT rfl (eqT cc82) <| sq <| FW.anew [(0, pt bx0), (3, pt b1)] ⟨rfl, rfl, trivial⟩ fun σ => rg <| mv (pt bx0) rfl <| u rfl (x_nk rfl) <| u rfl (x_fa tf128_1 rfl) <| u rfl (x_ld tsc126 rfl (S.load 1 rfl 4 rfl)) <| u rfl (x_lenV (r := R_regex_step) tsl126 rfl rfl S 2 rfl x0h4) <| mv (.int .i64 (x0.prog.length : Int)) rfl <| sr <| mv (pt bx0) rfl <| u rfl (x_fa tf121_1 rfl) <| u rfl (x_ld tsc118 rfl (S.load 0 rfl 1 rfl)) ?_
  obtain ⟨y83, h84, H⟩ := obx H
  refine g rfl (o_ia (r := R_regex_piece) tsl118 rfl rfl x1h1 rfl h84 fun b85 o86 cs87 hr88 hc89 => ?_)
  obtain ⟨y83v1, y83v2, rfl, y83h1, y83h2⟩ := R_regex_piece.un hr88
  refine u rfl (x_ldA tag121 rfl (S.loadI hc89) rfl) ?_
  obtain ⟨y90, hy91, H⟩ := obx H
  refine g rfl (cl fb84 (@ih_regex_Expr_compile k (by omega) x0 y83 _ _ _ _ _ _ _ _ _ _ _ hG (S.sel 3 [1, 2, 0] rfl) x0h1 x0h2 x0h4 y83h1 y83h2 hy91) rfl ?_)
  rintro _ w ⟨y90_0v1, y90_0v2, y90_0v4, cy90_0_4, J92, hJ93, rfl, y90_0h1, y90_0h2, y90_0h4, S⟩
  have hI := hI.trans hJ93
  have hG := hG.mono hJ93
  refine sq <| FW.anew [(0, pt bx0), (6, .int .i64 (x0.prog.length : Int))] ⟨rfl, rfl, trivial⟩ fun σ => rg <| mv (pt bx0) rfl <| u rfl (x_bld tz132 tpl132 rfl (.one rfl PC.nil) rfl) ?_
  obtain ⟨y94, hy95, H⟩ := obx H
  refine g rfl (cl fb117 (@regex_Expr_put.ok k y90 (T_regex_step.mk 1 [] false false (0, 0)) _ _ _ _ _ _ _ _ _ _ hG S y90_0h1 y90_0h2 y90_0h4 (SlR.nil _ _) hy95) rfl ?_)
  rintro _ w ⟨y94_1v1, y94_1v2, y94_1v4, cy94_1_4, J96, hJ97, rfl, y94_1h1, y94_1h2, y94_1h4, S⟩
  have hI := hI.trans hJ97
  refine mv (.int .i64 y94.1) rfl ?_
  have S := S.drew
  refine FW.regionD mixed ?_
  have hO := Hold.nil (w := { w with drawn := w.drawn + 1 })
  refine am 0 (pt bx0) rfl (by kernel_rfl) hO <| ap 1 rfl (by kernel_rfl) hO (fun w => x_nk rfl) <| ap 2 rfl (by kernel_rfl) hO (fun w => x_fa tf128_1 rfl) ?_
  have hR98 := ilr J96
  refine ak (Stab J96 [.bk bx0 128 [.int .i64 y94.2.top.kind, y94_1v1, y94_1v2, .bool y94.2.top.not, y94_1v4]]) 3 rfl (by kernel_rfl) hO (Stab.of S 0 rfl hR98) (fun w hS => x_ld tsc126 rfl (hS.load 0 rfl 4 rfl)) fun hO => am 4 (.int .i64 y94.1) rfl (by kernel_rfl) hO <| am 5 (.int .i64 (x0.prog.length : Int)) rfl (by kernel_rfl) hO <| am 6 (pt bx0) rfl (by kernel_rfl) hO <| ap 7 rfl (by kernel_rfl) hO (fun w => x_nk rfl) <| ap 8 rfl (by kernel_rfl) hO (fun w => x_fa tf128_1 rfl) <| ak (Stab J96 [.bk bx0 128 [.int .i64 y94.2.top.kind, y94_1v1, y94_1v2, .bool y94.2.top.not, y94_1v4]]) 9 rfl (by kernel_rfl) hO (Stab.of S 0 rfl hR98) (fun w hS => x_ld tsc126 rfl (hS.load 0 rfl 4 rfl)) fun hO => ap 10 rfl (by kernel_rfl) hO (fun w => x_lenVD (r := R_regex_step) tsl126 rfl rfl S 1 rfl y94_1h4 w) <| ap 11 rfl (by kernel_rfl) hO (fun w => x_bldA tar130 tz130 rfl (.one rfl (.one rfl PC.nil)) rfl) ?_
  obtain ⟨y99, h100, H⟩ := obx H
  refine AQ.pureE 12 rfl (by kernel_rfl) (by kernel_rfl) (by kernel_rfl) rfl hO (e_iaVD (r := R_regex_step) tsl126 rfl rfl S 1 rfl y94_1h4 rfl h100) ?_
  rintro _ ⟨b101, cs102, cc103, rfl, hv104, hr105, hc106⟩
  obtain ⟨y99v1, rfl, y99h1⟩ := hr105
  refine ap 13 rfl (by kernel_rfl) hO (fun w => x_fa tf132_4 rfl) <| AQ.one 14 [9, 3] [false, false] (by kernel_rfl) rfl (by kernel_rfl) <| g rfl (o_stVA (r := R_regex_step) (f := 4) (y' := (T_regex_step.mk y99.op y99.spans y99.all y99.not ((x0.prog.length : Int), (y94.2.prog.length : Int)))) tag130 rfl S 1 rfl hv104 y94_1h4 h100 ⟨y99v1, rfl, y99h1⟩ hc106 rfl rfl rfl rfl rfl (c1 rfl (c1 rfl c0)) ⟨y99v1, rfl, y99h1⟩ fun w a107 S h108 => andI Hold.nil fun hO => AQ.done (by kernel_rfl) ?_)
  obtain rfl := si H
  exact ⟨_, rfl, ⟨y94_1v1, y94_1v2, y94_1v4, a107, J96, hI, rfl, y94_1h1, y94_1h2, h108, (S.sel 3 [0, 1] rfl)⟩⟩
 rw [if_neg cc82] at H
 refine cF rfl (eqF cc82) <| sq <| FW.anew [(0, pt bx0), (3, pt b1)] ⟨rfl, rfl, trivial⟩ fun σ => rg <| mv (pt bx0) rfl <| u rfl (x_bld tz132 tpl132 rfl (.one rfl PC.nil) rfl) ?_
 obtain ⟨y109, hy110, H⟩ := obx H
 refine g rfl (cl fb117 (@regex_Expr_put.ok k x0 (T_regex_step.mk 1 [] false false (0, 0)) _ _ _ _ _ _ _ _ _ _ hG (S.sel 3 [1, 2, 0] rfl) x0h1 x0h2 x0h4 (SlR.nil _ _) hy110) rfl ?_)
 rintro _ w ⟨y109_1v1, y109_1v2, y109_1v4, cy109_1_4, J111, hJ112, rfl, y109_1h1, y109_1h2, y109_1h4, S⟩
 have x1h1 := x1h1.mono hJ112
 have hI := hI.trans hJ112
 have hG := hG.mono hJ112
 refine mv (.int .i64 y109.1) rfl <| sq ?_
 have S := S.drew
 refine FW.regionD mixed ?_
 have hO := Hold.nil (w := { w with drawn := w.drawn + 1 })
 refine am 0 (pt bx0) rfl (by kernel_rfl) hO <| ap 1 rfl (by kernel_rfl) hO (fun w => x_nk rfl) <| ap 2 rfl (by kernel_rfl) hO (fun w => x_fa tf128_1 rfl) ?_
 have hR113 := ilr J111
 refine ak (Stab J111 [.bk bx0 128 [.int .i64 y109.2.top.kind, y109_1v1, y109_1v2, .bool y109.2.top.not, y109_1v4]]) 3 rfl (by kernel_rfl) hO (Stab.of S 0 rfl hR113) (fun w hS => x_ld tsc126 rfl (hS.load 0 rfl 4 rfl)) fun hO => am 4 (.int .i64 y109.1) rfl (by kernel_rfl) hO <| am 5 (pt bx0) rfl (by kernel_rfl) hO <| ap 6 rfl (by kernel_rfl) hO (fun w => x_nk rfl) <| ap 7 rfl (by kernel_rfl) hO (fun w => x_fa tf128_1 rfl) <| ak (Stab J111 [.bk bx0 128 [.int .i64 y109.2.top.kind, y109_1v1, y109_1v2, .bool y109.2.top.not, y109_1v4]]) 8 rfl (by kernel_rfl) hO (Stab.of S 0 rfl hR113) (fun w hS => x_ld tsc126 rfl (hS.load 0 rfl 4 rfl)) fun hO => ap 9 rfl (by kernel_rfl) hO (fun w => x_lenVD (r := R_regex_step) tsl126 rfl rfl S 1 rfl y109_1h4 w) ?_
 obtain ⟨y114, h115, H⟩ := obx H
 refine AQ.pureE 10 rfl (by kernel_rfl) (by kernel_rfl) (by kernel_rfl) rfl hO (e_iaVD (r := R_regex_step) tsl126 rfl rfl S 1 rfl y109_1h4 rfl h115) ?_
 rintro _ ⟨b116, cs117, cc118, rfl, hv119, hr120, hc121⟩
 obtain ⟨y114v1, rfl, y114h1⟩ := hr120
 refine ap 11 rfl (by kernel_rfl) hO (fun w => x_fa tf132_4 rfl) <| ap 12 rfl (by kernel_rfl) hO (fun w => x_iaA tar130 rfl rfl (by decide) (by decide)) <| AQ.one 13 [8, 3] [false, false] (by kernel_rfl) rfl (by kernel_rfl) <| g rfl (o_stV (r := R_regex_step) (f := 4) (y' := (T_regex_step.mk y114.op y114.spans y114.all y114.not ((y109.2.prog.length : Int), y114.to_.2))) tone3 rfl S 1 rfl hv119 y109_1h4 h115 ⟨y114v1, rfl, y114h1⟩ hc121 rfl rfl rfl rfl ⟨y114v1, rfl, y114h1⟩ fun w a122 S h123 => andI Hold.nil fun hO => AQ.done (by kernel_rfl) (sq (FW.anew [(0, pt bx0), (3, pt b1), (8, .int .i64 y109.1)] ⟨rfl, rfl, rfl, trivial⟩ fun σ => rg (mv (pt bx0) rfl (u rfl (x_fa tf121_1 rfl) (u rfl (x_ld tsc118 rfl (S.load 2 rfl 1 rfl)) ?_))))))
 obtain ⟨y124, h125, H⟩ := obx H
 refine g rfl (o_ia (r := R_regex_piece) tsl118 rfl rfl x1h1 rfl h125 fun b126 o127 cs128 hr129 hc130 => ?_)
 obtain ⟨y124v1, y124v2, rfl, y124h1, y124h2⟩ := R_regex_piece.un hr129
 refine u rfl (x_ldA tag121 rfl (S.loadI hc130) rfl) ?_
 obtain ⟨y131, hy132, H⟩ := obx H
 refine g rfl (cl fb84 (@ih_regex_Expr_compile k (by omega) (T_regex_Expr.mk y109.2.top (y109.2.prog.set y109.1.toNat (T_regex_step.mk y114.op y114.spans y114.all y114.not ((y109.2.prog.length : Int), y114.to_.2)))) y124 _ _ _ _ _ _ _ _ _ _ _ hG S y109_1h1 y109_1h2 h123 y124h1 y124h2 hy132) rfl ?_)
 rintro _ w ⟨y131_0v1, y131_0v2, y131_0v4, cy131_0_4, J133, hJ134, rfl, y131_0h1, y131_0h2, y131_0h4, S⟩
 have hI := hI.trans hJ134
 have hG := hG.mono hJ134
 refine sq <| sr <| u rfl (x_fa tf121_0 rfl) <| u rfl (x_ld tsc3 rfl (S.load 2 rfl 0 rfl)) <| u rfl (x_bin rfl rfl rfl) ?_
 obtain ⟨o149, H, HO150⟩ := obx H
 have hL151 := ilr J133
 refine FW.cutN (fun σ w => ∃ (n136 : Int) (l137 : (List T_pc)) (l140 : (List T_regex_span)) (b143 : Bool) (l144 : (List T_regex_step)) (v138 : Value) (v141 : Value) (v145 : Value) (a146 : List Value) (J135 : IMem), (n136, l137, l140, b143, l144) = o149 ∧ Has σ [(0, pt bx0), (8, .int .i64 y109.1)] ∧ J133.le J135 ∧ Own J135 w (.bk bx0 128 [.int .i64 n136, v138, v141, .bool b143, v145] :: .bk b1 121 [.int .i64 x1.kind, x1v1, x1v2, .bool x1.not] :: .av v145 132 6 a146 :: F) ∧ SlR R_regex_piece J135 v138 l137 ∧ SlR R_regex_span J135 v141 l140 ∧ Flat R_regex_step J135 a146 l144) ?_ ?_
 ·by_cases cc152 : x1.kind = 7
  ·rw [if_pos cc152] at H
   refine cT rfl (eqT cc152) <| sq <| FW.anew [(0, pt bx0), (8, .int .i64 y109.1)] ⟨rfl, rfl, trivial⟩ fun σ => rg <| mv (pt bx0) rfl <| u rfl (x_bld tz132 tpl132 rfl (.one rfl PC.nil) rfl) ?_
   obtain ⟨y153, hy154, H⟩ := obx H
   refine g rfl (cl fb117 (@regex_Expr_put.ok k y131 (T_regex_step.mk 1 [] false false (0, 0)) _ _ _ _ _ _ _ _ _ _ hG S y131_0h1 y131_0h2 y131_0h4 (SlR.nil _ _) hy154) rfl ?_)
   rintro _ w ⟨y153_1v1, y153_1v2, y153_1v4, cy153_1_4, J155, hJ156, rfl, y153_1h1, y153_1h2, y153_1h4, S⟩
   have hL151 := hL151.trans hJ156
   refine mv (.int .i64 y153.1) rfl <| rg <| mv (pt bx0) rfl <| u rfl (x_nk rfl) <| u rfl (x_fa tf128_1 rfl) <| u rfl (x_ld tsc126 rfl (S.load 0 rfl 4 rfl)) <| mv (.int .i64 y153.1) rfl <| mv (.int .i64 y109.1) rfl <| mv (.int .i64 y109.1) rfl <| u rfl (x_bldA tar130 tz130 rfl (.one rfl (.one rfl PC.nil)) rfl) ?_
   obtain ⟨y157, h158, H⟩ := obx H
   refine g rfl (o_iaV (r := R_regex_step) tsl126 rfl rfl S 1 rfl y153_1h4 rfl h158 fun b159 cs160 cc161 hv162 hr163 hc164 => ?_)
   obtain ⟨y157v1, rfl, y157h1⟩ := hr163
   refine u rfl (x_fa tf132_4 rfl) <| g rfl (o_stVA (r := R_regex_step) (f := 4) (y' := (T_regex_step.mk y157.op y157.spans y157.all y157.not (y109.1, y109.1))) tag130 rfl S 1 rfl hv162 y153_1h4 h158 ⟨y157v1, rfl, y157h1⟩ hc164 rfl rfl rfl rfl rfl (c1 rfl (c1 rfl c0)) ⟨y157v1, rfl, y157h1⟩ fun w a165 S h166 => ⟨y153.2.top.kind, y153.2.top.parts, y153.2.top.spans, y153.2.top.not, (y153.2.prog.set y153.1.toNat (T_regex_step.mk y157.op y157.spans y157.all y157.not (y109.1, y109.1))), y153_1v1, y153_1v2, y153_1v4, a165, J155, (si H), ⟨rfl, rfl, trivial⟩, hL151, (S.sel 3 [0, 2, 1] rfl), y153_1h1, y153_1h2, h166⟩)
  rw [if_neg cc152] at H
  refine cF rfl (eqF cc152) <| sk ⟨y131.top.kind, y131.top.parts, y131.top.spans, y131.top.not, y131.prog, y131_0v1, y131_0v2, y131_0v4, cy131_0_4, J133, (si H), ⟨rfl, rfl, trivial⟩, hL151, (S.sel 3 [0, 2, 1] rfl), y131_0h1, y131_0h2, y131_0h4⟩
 rintro σ w ⟨n136, l137, l140, b143, l144, v138, v141, v145, a146, J135, ho, hσ, hL151, S, h139, h142, h147⟩
 subst ho
 have H := HO150
 try dsimp only at H
 have hI := hI.trans hL151
 rw [hσ.eq]
 have S := S.drew
 refine FW.regionD mixed ?_
 have hO := Hold.nil (w := { w with drawn := w.drawn + 1 })
 refine am 0 (pt bx0) rfl (by kernel_rfl) hO <| ap 1 rfl (by kernel_rfl) hO (fun w => x_nk rfl) <| ap 2 rfl (by kernel_rfl) hO (fun w => x_fa tf128_1 rfl) ?_
 have hR167 := ilr J135
 refine ak (Stab J135 [.bk bx0 128 [.int .i64 n136, v138, v141, .bool b143, v145]]) 3 rfl (by kernel_rfl) hO (Stab.of S 0 rfl hR167) (fun w hS => x_ld tsc126 rfl (hS.load 0 rfl 4 rfl)) fun hO => am 4 (.int .i64 y109.1) rfl (by kernel_rfl) hO <| am 5 (pt bx0) rfl (by kernel_rfl) hO <| ap 6 rfl (by kernel_rfl) hO (fun w => x_nk rfl) <| ap 7 rfl (by kernel_rfl) hO (fun w => x_fa tf128_1 rfl) <| ak (Stab J135 [.bk bx0 128 [.int .i64 n136, v138, v141, .bool b143, v145]]) 8 rfl (by kernel_rfl) hO (Stab.of S 0 rfl hR167) (fun w hS => x_ld tsc126 rfl (hS.load 0 rfl 4 rfl)) fun hO => ap 9 rfl (by kernel_rfl) hO (fun w => x_lenVD (r := R_regex_step) tsl126 rfl rfl S 2 rfl h147 w) ?_
 obtain ⟨y168, h169, H⟩ := obx H
 refine AQ.pureE 10 rfl (by kernel_rfl) (by kernel_rfl) (by kernel_rfl) rfl hO (e_iaVD (r := R_regex_step) tsl126 rfl rfl S 2 rfl h147 rfl h169) ?_
 rintro _ ⟨b170, cs171, cc172, rfl, hv173, hr174, hc175⟩
 obtain ⟨y168v1, rfl, y168h1⟩ := hr174
 refine ap 11 rfl (by kernel_rfl) hO (fun w => x_fa tf132_4 rfl) <| ap 12 rfl (by kernel_rfl) hO (fun w => x_iaA tar130 rfl rfl (by decide) (by decide)) <| AQ.one 13 [8, 3] [false, false] (by kernel_rfl) rfl (by kernel_rfl) <| g rfl (o_stV (r := R_regex_step) (f := 5) (y' := (T_regex_step.mk y168.op y168.spans y168.all y168.not (y168.to_.1, (l144.length : Int)))) tone3 rfl S 2 rfl hv173 h147 h169 ⟨y168v1, rfl, y168h1⟩ hc175 rfl rfl rfl rfl ⟨y168v1, rfl, y168h1⟩ fun w a176 S h177 => andI Hold.nil fun hO => AQ.done (by kernel_rfl) ?_)
 obtain rfl := si H
 exact ⟨_, rfl, ⟨v138, v141, v145, a176, J135, hI, rfl, h139, h142, h177, (S.sel 3 [0, 2] rfl)⟩⟩
theorem regex_Expr_compile.zero : regex_Expr_compile.C 0 := by
  intro _ _ _ _ _ _ _ _ _ _ _ _ _ _ _ _ _ _ _ _ H; cases H
theorem regex_Expr_choices.step (k : Nat) (ih_regex_Expr_compile : ∀ m, m ≤ k → regex_Expr_compile.C m) : regex_Expr_choices.C (k + 1) := by
 intro x0 x1 x0v1 x0v2 x0v4 cx0_4 vx1 bx0 F I w r hG S x0h1 x0h2 x0h4 hx1 H
 have hI := ilr I
 rw [regex_Expr_choices.f] at H
 refine Calls.ofFW (args := [pt bx0, vx1]) Tryz.func116 rfl rfl <| sr <| mv ((.slice none 0 0)) rfl <| sq <| sr <| mv vx1 rfl <| u rfl (x_lenD (r := R_regex_piece) tsl118 hx1) <| mv (.int .i64 0) rfl <| bk ?_
 have S := S.nil_tv 3 1
 obtain ⟨o22, hl24, HO23⟩ := obx H
 refine FW.cutX 0 (fun σ w => ∃ (l26 : (List Int)) (n29 : Int) (l30 : (List T_pc)) (l33 : (List T_regex_span)) (b36 : Bool) (l37 : (List T_regex_step)) (v27 : Value) (v31 : Value) (v34 : Value) (v38 : Value) (a39 : List Value) (J25 : IMem), (l26, n29, l30, l33, b36, l37) = o22 ∧ Has σ [(0, pt bx0), (4, v27)] ∧ I.le J25 ∧ Own J25 w (.tv v27 3 1 :: .bk bx0 128 [.int .i64 n29, v31, v34, .bool b36, v38] :: .av v38 132 6 a39 :: F) ∧ SlR (tInt' .i64) J25 v27 l26 ∧ SlR R_regex_piece J25 v31 l30 ∧ SlR R_regex_span J25 v34 l33 ∧ Flat R_regex_step J25 a39 l37) ?_ ?_
 ·refine FW.loop k (FL.ind (fun q σ w => ∃ (l3 : (List Int)) (n6 : Int) (n7 : Int) (l8 : (List T_pc)) (l11 : (List T_regex_span)) (b14 : Bool) (l15 : (List T_regex_step)) (v4 : Value) (v9 : Value) (v12 : Value) (v16 : Value) (a17 : List Value) (J2 : IMem), regex_Expr_choices.l0 q x1 l3 n6 n7 l8 l11 b14 l15 = some o22 ∧ q ≤ k ∧ Has σ [(0, pt bx0), (1, vx1), (4, v4), (10, vx1), (11, .int .i64 (x1.length : Int)), (12, .int .i64 n6)] ∧ I.le J2 ∧ Own J2 w (.tv v4 3 1 :: .bk bx0 128 [.int .i64 n7, v9, v12, .bool b14, v16] :: .av v16 132 6 a17 :: F) ∧ SlR (tInt' .i64) J2 v4 l3 ∧ SlR R_regex_piece J2 v9 l8 ∧ SlR R_regex_span J2 v12 l11 ∧ Flat R_regex_step J2 a17 l15) ?_ ?_ k k _ _ (Nat.le_refl _) ⟨[], 0, x0.top.kind, x0.top.parts, x0.top.spans, x0.top.not, x0.prog, (.slice none 0 0), x0v1, x0v2, x0v4, cx0_4, I, hl24, Nat.le_refl _, ⟨rfl, rfl, rfl, rfl, rfl, rfl, trivial⟩, (ilr _), S, (SlR.nil _ _), x0h1, x0h2, x0h4⟩)
  ·rintro σ w ⟨l3, n6, n7, l8, l11, b14, l15, v4, v9, v12, v16, a17, J2, H, _⟩; cases H
  rintro q20 σ w ⟨l3, n6, n7, l8, l11, b14, l15, v4, v9, v12, v16, a17, J2, H, hq42, hσ, hL21, S, h5, h10, h13, h18⟩
  have hx1 := hx1.mono hL21
  have hG := hG.mono hL21
  rw [hσ.eq]
  rw [regex_Expr_choices.l0] at H
  refine sr <| u rfl (x_bin rfl rfl rfl) <| sq ?_
  by_cases cc43 : n6 < (x1.length : Int)
  ·rw [if_pos cc43] at H
   refine cT rfl (deT cc43) <| sk <| sq <| bk <| sr <| mv (.int .i64 n6) rfl ?_
   obtain ⟨y44, h45, H⟩ := obx H
   refine g rfl (o_ia (r := R_regex_piece) tsl118 rfl rfl hx1 rfl h45 fun b46 o47 cs48 hr49 hc50 => ?_)
   obtain ⟨y44v1, y44v2, rfl, y44h1, y44h2⟩ := R_regex_piece.un hr49
   refine u rfl (x_ldA tag121 rfl (S.loadI hc50) rfl) <| g rfl (o_all tz121 S fun b51 w S => mv (.int .i64 n6) rfl (g rfl (o_stA tag121 S 0 rfl rfl rfl rfl (c1 rfl (c1 y44h1.one (c1 y44h2.one (c1 rfl c0)))) rfl fun w S => sq (sq (FW.anew [(0, pt bx0), (1, vx1), (4, v4), (5, .int .i64 n6), (6, pt b51), (10, vx1), (11, .int .i64 (x1.length : Int)), (12, .int .i64 n6)] ⟨rfl, rfl, rfl, rfl, rfl, rfl, rfl, rfl, trivial⟩ fun σ => rg (mv (.int .i64 n6) rfl (mv vx1 rfl (u rfl (x_lenD (r := R_regex_piece) tsl118 hx1) (u rfl (x_bin rfl rfl rfl) (u rfl (x_bin rfl rfl rfl) ?_))))))))))
   by_cases cc52 : n6 = (i64 ((x1.length : Int) - 1))
   ·rw [if_pos cc52] at H
    refine cT rfl (eqT cc52) <| sr <| mv (pt bx0) rfl <| u rfl (x_ldA tag121 rfl (S.loadW 0 rfl) rfl) ?_
    obtain ⟨y53, hy54, H⟩ := obx H
    refine g rfl (cl fb84 (@ih_regex_Expr_compile q20 (by omega) (T_regex_Expr.mk (T_pc.mk n7 l8 l11 b14) l15) y44 _ _ _ _ _ _ _ _ _ _ _ hG (S.sel 4 [2, 3, 0, 1] rfl) h10 h13 h18 y44h1 y44h2 hy54) rfl ?_)
    rintro _ w ⟨y53_0v1, y53_0v2, y53_0v4, cy53_0_4, J55, hJ56, rfl, y53_0h1, y53_0h2, y53_0h4, S⟩
    have h5 := h5.mono hJ56
    have hL21 := hL21.trans hJ56
    refine ex ⟨l3, y53.top.kind, y53.top.parts, y53.top.spans, y53.top.not, y53.prog, v4, y53_0v1, y53_0v2, y53_0v4, cy53_0_4, J55, (si H), ⟨rfl, rfl, trivial⟩, hL21, (S.sel 4 [3, 0, 1] rfl), h5, y53_0h1, y53_0h2, y53_0h4⟩
   rw [if_neg cc52] at H
   refine cF rfl (eqF cc52) <| sk <| sr <| mv (pt bx0) rfl <| u rfl (x_bld tz132 tpl132 rfl (.one rfl PC.nil) rfl) ?_
   obtain ⟨y57, hy58, H⟩ := obx H
   refine g rfl (cl fb117 (@regex_Expr_put.ok q20 (T_regex_Expr.mk (T_pc.mk n7 l8 l11 b14) l15) (T_regex_step.mk 1 [] false false (0, 0)) _ _ _ _ _ _ _ _ _ _ hG (S.sel 4 [2, 3, 0, 1] rfl) h10 h13 h18 (SlR.nil _ _) hy58) rfl ?_)
   rintro _ w ⟨y57_1v1, y57_1v2, y57_1v4, cy57_1_4, J59, hJ60, rfl, y57_1h1, y57_1h2, y57_1h4, S⟩
   have h5 := h5.mono hJ60
   have y44h1 := y44h1.mono hJ60
   have y44h2 := y44h2.mono hJ60
   have hL21 := hL21.trans hJ60
   have hG := hG.mono hJ60
   refine mv (.int .i64 y57.1) rfl <| sq <| FW.anew [(0, pt bx0), (1, vx1), (4, v4), (6, pt b51), (7, .int .i64 y57.1), (10, vx1), (11, .int .i64 (x1.length : Int)), (12, .int .i64 n6)] ⟨rfl, rfl, rfl, rfl, rfl, rfl, rfl, rfl, trivial⟩ fun σ => ?_
   have S := S.drew
   refine FW.regionD mixed ?_
   have hO := Hold.nil (w := { w with drawn := w.drawn + 1 })
   refine am 0 (pt bx0) rfl (by kernel_rfl) hO <| ap 1 rfl (by kernel_rfl) hO (fun w => x_nk rfl) <| ap 2 rfl (by kernel_rfl) hO (fun w => x_fa tf128_1 rfl) ?_
   have hR61 := ilr J59
   refine ak (Stab J59 [.bk bx0 128 [.int .i64 y57.2.top.kind, y57_1v1, y57_1v2, .bool y57.2.top.not, y57_1v4]]) 3 rfl (by kernel_rfl) hO (Stab.of S 0 rfl hR61) (fun w hS => x_ld tsc126 rfl (hS.load 0 rfl 4 rfl)) fun hO => am 4 (.int .i64 y57.1) rfl (by kernel_rfl) hO <| am 5 (pt bx0) rfl (by kernel_rfl) hO <| ap 6 rfl (by kernel_rfl) hO (fun w => x_nk rfl) <| ap 7 rfl (by kernel_rfl) hO (fun w => x_fa tf128_1 rfl) <| ak (Stab J59 [.bk bx0 128 [.int .i64 y57.2.top.kind, y57_1v1, y57_1v2, .bool y57.2.top.not, y57_1v4]]) 8 rfl (by kernel_rfl) hO (Stab.of S 0 rfl hR61) (fun w hS => x_ld tsc126 rfl (hS.load 0 rfl 4 rfl)) fun hO => ap 9 rfl (by kernel_rfl) hO (fun w => x_lenVD (r := R_regex_step) tsl126 rfl rfl S 1 rfl y57_1h4 w) ?_
   obtain ⟨y62, h63, H⟩ := obx H
   refine AQ.pureE 10 rfl (by kernel_rfl) (by kernel_rfl) (by kernel_rfl) rfl hO (e_iaVD (r := R_regex_step) tsl126 rfl rfl S 1 rfl y57_1h4 rfl h63) ?_
   rintro _ ⟨b64, cs65, cc66, rfl, hv67, hr68, hc69⟩
   obtain ⟨y62v1, rfl, y62h1⟩ := hr68
   refine ap 11 rfl (by kernel_rfl) hO (fun w => x_fa tf132_4 rfl) <| ap 12 rfl (by kernel_rfl) hO (fun w => x_iaA tar130 rfl rfl (by decide) (by decide)) <| AQ.one 13 [8, 3] [false, false] (by kernel_rfl) rfl (by kernel_rfl) <| g rfl (o_stV (r := R_regex_step) (f := 4) (y' := (T_regex_step.mk y62.op y62.spans y62.all y62.not ((y57.2.prog.length : Int), y62.to_.2))) tone3 rfl S 1 rfl hv67 y57_1h4 h63 ⟨y62v1, rfl, y62h1⟩ hc69 rfl rfl rfl rfl ⟨y62v1, rfl, y62h1⟩ fun w a70 S h71 => andI Hold.nil fun hO => AQ.done (by kernel_rfl) (sq (FW.anew [(0, pt bx0), (1, vx1), (4, v4), (6, pt b51), (7, .int .i64 y57.1), (10, vx1), (11, .int .i64 (x1.length : Int)), (12, .int .i64 n6)] ⟨rfl, rfl, rfl, rfl, rfl, rfl, rfl, rfl, trivial⟩ fun σ => rg (mv (pt bx0) rfl (u rfl (x_ldA tag121 rfl (S.loadW 2 rfl) rfl) ?_)))))
   obtain ⟨y72, hy73, H⟩ := obx H
   refine g rfl (cl fb84 (@ih_regex_Expr_compile q20 (by omega) (T_regex_Expr.mk y57.2.top (y57.2.prog.set y57.1.toNat (T_regex_step.mk y62.op y62.spans y62.all y62.not ((y57.2.prog.length : Int), y62.to_.2)))) y44 _ _ _ _ _ _ _ _ _ _ _ hG S y57_1h1 y57_1h2 h71 y44h1 y44h2 hy73) rfl ?_)
   rintro _ w ⟨y72_0v1, y72_0v2, y72_0v4, cy72_0_4, J74, hJ75, rfl, y72_0h1, y72_0h2, y72_0h4, S⟩
   have h5 := h5.mono hJ75
   have hL21 := hL21.trans hJ75
   have hG := hG.mono hJ75
   refine sr <| mv v4 rfl <| mv (pt bx0) rfl <| u rfl (x_bld tz132 tpl132 rfl (.one rfl PC.nil) rfl) ?_
   obtain ⟨y76, hy77, H⟩ := obx H
   refine g rfl (cl fb117 (@regex_Expr_put.ok q20 y72 (T_regex_step.mk 1 [] false false (0, 0)) _ _ _ _ _ _ _ _ _ _ hG S y72_0h1 y72_0h2 y72_0h4 (SlR.nil _ _) hy77) rfl ?_)
   rintro _ w ⟨y76_1v1, y76_1v2, y76_1v4, cy76_1_4, J78, hJ79, rfl, y76_1h1, y76_1h2, y76_1h4, S⟩
   have h5 := h5.mono hJ79
   have hL21 := hL21.trans hJ79
   refine g rfl (o_bsl tsl161 tz3 rfl rfl rfl rfl (.one rfl PC.nil) rfl S fun b80 w S => ?_)
   obtain ⟨J81, hJ83, S, h82⟩ := S.freeze (r := (tInt' .i64)) (l := [y76.1]) 0 rfl ⟨[.int .i64 y76.1], _, rfl, rfl, rfl⟩ rfl rfl
   have h5 := h5.mono hJ83
   have y76_1h1 := y76_1h1.mono hJ83
   have y76_1h2 := y76_1h2.mono hJ83
   have y76_1h4 := y76_1h4.mono hJ83
   have hL21 := hL21.trans hJ83
   obtain ⟨l84, h86, H⟩ := obx H
   refine g rfl (o_appD (r := (tInt' .i64)) tsl161 rfl tz3 rfl rfl S 4 rfl rfl h5 h82 h86 fun v85 w J88 hJ89 S h87 => ?_)
   have y76_1h1 := y76_1h1.mono hJ89
   have y76_1h2 := y76_1h2.mono hJ89
   have y76_1h4 := y76_1h4.mono hJ89
   have hL21 := hL21.trans hJ89
   refine mv v85 rfl <| FW.anew [(0, pt bx0), (1, vx1), (4, v85), (7, .int .i64 y57.1), (10, vx1), (11, .int .i64 (x1.length : Int)), (12, .int .i64 n6)] ⟨rfl, rfl, rfl, rfl, rfl, rfl, rfl, trivial⟩ fun σ => ?_
   have S := S.drew
   refine FW.regionD mixed ?_
   have hO := Hold.nil (w := { w with drawn := w.drawn + 1 })
   refine am 0 (pt bx0) rfl (by kernel_rfl) hO <| ap 1 rfl (by kernel_rfl) hO (fun w => x_nk rfl) <| ap 2 rfl (by kernel_rfl) hO (fun w => x_fa tf128_1 rfl) ?_
   have hR90 := ilr J88
   refine ak (Stab J88 [.bk bx0 128 [.int .i64 y76.2.top.kind, y76_1v1, y76_1v2, .bool y76.2.top.not, y76_1v4]]) 3 rfl (by kernel_rfl) hO (Stab.of S 1 rfl hR90) (fun w hS => x_ld tsc126 rfl (hS.load 0 rfl 4 rfl)) fun hO => am 4 (.int .i64 y57.1) rfl (by kernel_rfl) hO <| am 5 (pt bx0) rfl (by kernel_rfl) hO <| ap 6 rfl (by kernel_rfl) hO (fun w => x_nk rfl) <| ap 7 rfl (by kernel_rfl) hO (fun w => x_fa tf128_1 rfl) <| ak (Stab J88 [.bk bx0 128 [.int .i64 y76.2.top.kind, y76_1v1, y76_1v2, .bool y76.2.top.not, y76_1v4]]) 8 rfl (by kernel_rfl) hO (Stab.of S 1 rfl hR90) (fun w hS => x_ld tsc126 rfl (hS.load 0 rfl 4 rfl)) fun hO => ap 9 rfl (by kernel_rfl) hO (fun w => x_lenVD (r := R_regex_step) tsl126 rfl rfl S 2 rfl y76_1h4 w) ?_
   obtain ⟨y91, h92, H⟩ := obx H
   refine AQ.pureE 10 rfl (by kernel_rfl) (by kernel_rfl) (by kernel_rfl) rfl hO (e_iaVD (r := R_regex_step) tsl126 rfl rfl S 2 rfl y76_1h4 rfl h92) ?_
   rintro _ ⟨b93, cs94, cc95, rfl, hv96, hr97, hc98⟩
   obtain ⟨y91v1, rfl, y91h1⟩ := hr97
   refine ap 11 rfl (by kernel_rfl) hO (fun w => x_fa tf132_4 rfl) <| ap 12 rfl (by kernel_rfl) hO (fun w => x_iaA tar130 rfl rfl (by decide) (by decide)) <| AQ.one 13 [8, 3] [false, false] (by kernel_rfl) rfl (by kernel_rfl) <| g rfl (o_stV (r := R_regex_step) (f := 5) (y' := (T_regex_step.mk y91.op y91.spans y91.all y91.not (y91.to_.1, (y76.2.prog.length : Int)))) tone3 rfl S 2 rfl hv96 y76_1h4 h92 ⟨y91v1, rfl, y91h1⟩ hc98 rfl rfl rfl rfl ⟨y91v1, rfl, y91h1⟩ fun w a99 S h100 => andI Hold.nil fun hO => AQ.done (by kernel_rfl) (FW.anew [(0, pt bx0), (1, vx1), (4, v85), (10, vx1), (11, .int .i64 (x1.length : Int)), (12, .int .i64 n6)] ⟨rfl, rfl, rfl, rfl, rfl, rfl, trivial⟩ fun σ => rg (u rfl (x_bin rfl rfl rfl) (mv (.int .i64 (i64 (n6 + 1))) rfl ⟨q20, Nat.le_refl _, l84, (i64 (n6 + 1)), y76.2.top.kind, y76.2.top.parts, y76.2.top.spans, y76.2.top.not, (y76.2.prog.set y57.1.toNat (T_regex_step.mk y91.op y91.spans y91.all y91.not (y91.to_.1, (y76.2.prog.length : Int)))), v85, y76_1v1, y76_1v2, y76_1v4, a99, J88, H, (Nat.le_of_succ_le hq42), ⟨rfl, rfl, rfl, rfl, rfl, rfl, trivial⟩, hL21, (S.sel 5 [4, 1, 2] rfl), h87, y76_1h1, y76_1h2, h100⟩))))
  rw [if_neg cc43] at H
  refine cF rfl (deF cc43) <| ex ⟨l3, n7, l8, l11, b14, l15, v4, v9, v12, v16, a17, J2, (si H), ⟨rfl, rfl, trivial⟩, hL21, S, h5, h10, h13, h18⟩
 rintro σ w ⟨l26, n29, l30, l33, b36, l37, v27, v31, v34, v38, a39, J25, ho, hσ, hL21, S, h28, h32, h35, h40⟩
 subst ho
 have H := HO23
 try dsimp only at H
 have hI := hI.trans hL21
 rw [hσ.eq]
 refine sr <| mv v27 rfl <| u rfl (x_lenD (r := (tInt' .i64)) tsl161 h28) <| mv (.int .i64 0) rfl <| bk ?_
 obtain ⟨o110, hl112, HO111⟩ := obx H
 refine FW.cutX 2 (fun σ w => ∃ (l114 : (List T_regex_step)) (v115 : Value) (a116 : List Value) (J113 : IMem), l114 = o110 ∧ Has σ [] ∧ J25.le J113 ∧ Own J113 w (.bk bx0 128 [.int .i64 n29, v31, v34, .bool b36, v115] :: .av v115 132 6 a116 :: F) ∧ Flat R_regex_step J113 a116 l114) ?_ ?_
 ·refine FW.loop k (FL.ind (fun q σ w => ∃ (n102 : Int) (l103 : (List T_regex_step)) (v104 : Value) (a105 : List Value) (J101 : IMem), regex_Expr_choices.l1 q l26 n102 l103 = some o110 ∧ q ≤ k ∧ Has σ [(0, pt bx0), (64, v27), (65, .int .i64 (l26.length : Int)), (66, .int .i64 n102)] ∧ J25.le J101 ∧ Own J101 w (.tv v27 3 1 :: .bk bx0 128 [.int .i64 n29, v31, v34, .bool b36, v104] :: .av v104 132 6 a105 :: F) ∧ Flat R_regex_step J101 a105 l103) ?_ ?_ k k _ _ (Nat.le_refl _) ⟨0, l37, v38, a39, J25, hl112, Nat.le_refl _, ⟨rfl, rfl, rfl, rfl, trivial⟩, (ilr _), S, h40⟩)
  ·rintro σ w ⟨n102, l103, v104, a105, J101, H, _⟩; cases H
  rintro q108 σ w ⟨n102, l103, v104, a105, J101, H, hq119, hσ, hL109, S, h106⟩
  have h28 := h28.mono hL109
  rw [hσ.eq]
  rw [regex_Expr_choices.l1] at H
  refine sr <| u rfl (x_bin rfl rfl rfl) <| sq ?_
  by_cases cc120 : n102 < (l26.length : Int)
  ·rw [if_pos cc120] at H
   refine cT rfl (deT cc120) <| sk <| sq <| bk <| sq <| rg ?_
   obtain ⟨y121, h122, H⟩ := obx H
   refine g rfl (o_ia (r := (tInt' .i64)) tsl161 rfl rfl h28 rfl h122 fun b123 o124 cs125 hr126 hc127 => ?_)
   obtain rfl := hr126
   refine u rfl (x_ld tsc3 rfl (S.cell _ _ _ (hc127 0 _ rfl))) <| mv (.int .i64 y121) rfl ?_
   have S := S.drew
   refine FW.regionD mixed ?_
   have hO := Hold.nil (w := { w with drawn := w.drawn + 1 })
   refine am 0 (pt bx0) rfl (by kernel_rfl) hO <| ap 1 rfl (by kernel_rfl) hO (fun w => x_nk rfl) <| ap 2 rfl (by kernel_rfl) hO (fun w => x_fa tf128_1 rfl) ?_
   have hR128 := ilr J101
   refine ak (Stab J101 [.bk bx0 128 [.int .i64 n29, v31, v34, .bool b36, v104]]) 3 rfl (by kernel_rfl) hO (Stab.of S 1 rfl hR128) (fun w hS => x_ld tsc126 rfl (hS.load 0 rfl 4 rfl)) fun hO => am 4 (.int .i64 y121) rfl (by kernel_rfl) hO <| am 5 (pt bx0) rfl (by kernel_rfl) hO <| ap 6 rfl (by kernel_rfl) hO (fun w => x_nk rfl) <| ap 7 rfl (by kernel_rfl) hO (fun w => x_fa tf128_1 rfl) <| ak (Stab J101 [.bk bx0 128 [.int .i64 n29, v31, v34, .bool b36, v104]]) 8 rfl (by kernel_rfl) hO (Stab.of S 1 rfl hR128) (fun w hS => x_ld tsc126 rfl (hS.load 0 rfl 4 rfl)) fun hO => ap 9 rfl (by kernel_rfl) hO (fun w => x_lenVD (r := R_regex_step) tsl126 rfl rfl S 2 rfl h106 w) <| am 10 (pt bx0) rfl (by kernel_rfl) hO <| ap 11 rfl (by kernel_rfl) hO (fun w => x_nk rfl) <| ap 12 rfl (by kernel_rfl) hO (fun w => x_fa tf128_1 rfl) <| ak (Stab J101 [.bk bx0 128 [.int .i64 n29, v31, v34, .bool b36, v104]]) 13 rfl (by kernel_rfl) hO (Stab.of S 1 rfl hR128) (fun w hS => x_ld tsc126 rfl (hS.load 0 rfl 4 rfl)) fun hO => ap 14 rfl (by kernel_rfl) hO (fun w => x_lenVD (r := R_regex_step) tsl126 rfl rfl S 2 rfl h106 w) <| ap 15 rfl (by kernel_rfl) hO (fun w => x_bldA tar130 tz130 rfl (.one rfl (.one rfl PC.nil)) rfl) ?_
   obtain ⟨y129, h130, H⟩ := obx H
   refine AQ.pureE 16 rfl (by kernel_rfl) (by kernel_rfl) (by kernel_rfl) rfl hO (e_iaVD (r := R_regex_step) tsl126 rfl rfl S 2 rfl h106 rfl h130) ?_
   rintro _ ⟨b131, cs132, cc133, rfl, hv134, hr135, hc136⟩
   obtain ⟨y129v1, rfl, y129h1⟩ := hr135
   refine ap 17 rfl (by kernel_rfl) hO (fun w => x_fa tf132_4 rfl) <| AQ.one 18 [13, 8, 3] [false, false, false] (by kernel_rfl) rfl (by kernel_rfl) <| g rfl (o_stVA (r := R_regex_step) (f := 4) (y' := (T_regex_step.mk y129.op y129.spans y129.all y129.not ((l103.length : Int), (l103.length : Int)))) tag130 rfl S 2 rfl hv134 h106 h130 ⟨y129v1, rfl, y129h1⟩ hc136 rfl rfl rfl rfl rfl (c1 rfl (c1 rfl c0)) ⟨y129v1, rfl, y129h1⟩ fun w a137 S h138 => andI Hold.nil fun hO => AQ.done (by kernel_rfl) (FW.anew [(0, pt bx0), (64, v27), (65, .int .i64 (l26.length : Int)), (66, .int .i64 n102)] ⟨rfl, rfl, rfl, rfl, trivial⟩ fun σ => rg (u rfl (x_bin rfl rfl rfl) (mv (.int .i64 (i64 (n102 + 1))) rfl ⟨q108, Nat.le_refl _, (i64 (n102 + 1)), (l103.set y121.toNat (T_regex_step.mk y129.op y129.spans y129.all y129.not ((l103.length : Int), (l103.length : Int)))), v104, a137, J101, H, (Nat.le_of_succ_le hq119), ⟨rfl, rfl, rfl, rfl, trivial⟩, hL109, S, h138⟩))))
  rw [if_neg cc120] at H
  refine cF rfl (deF cc120) <| ex ⟨l103, v104, a105, J101, (si H), trivial, hL109, (S.sel 3 [1, 2] rfl), h106⟩
 rintro σ w ⟨l114, v115, a116, J113, ho, hσ, hL109, S, h117⟩
 subst ho
 have H := HO111
 have h32 := h32.mono hL109
 have h35 := h35.mono hL109
 have hI := hI.trans hL109
 rw [hσ.eq]
 obtain rfl := si H
 exact ⟨_, rfl, ⟨v31, v34, v115, a116, J113, hI, rfl, h32, h35, h117, S⟩⟩
theorem regex_Expr_choices.zero : regex_Expr_choices.C 0 := by
  intro _ _ _ _ _ _ _ _ _ _ _ _ _ _ _ _ _ _ H; cases H
theorem regex_Expr_compile.grp : ∀ k m, m ≤ k → regex_Expr_compile.C m ∧ regex_Expr_choices.C m
  | 0, m, h => by
    obtain rfl : m = 0 := by omega
    exact ⟨regex_Expr_compile.zero, regex_Expr_choices.zero⟩
  | k + 1, 0, _ => ⟨regex_Expr_compile.zero, regex_Expr_choices.zero⟩
  | k + 1, m + 1, h => ⟨regex_Expr_compile.step m (fun i hi => (regex_Expr_compile.grp k i (by omega)).1) (fun i hi => (regex_Expr_compile.grp k i (by omega)).2), regex_Expr_choices.step m (fun i hi => (regex_Expr_compile.grp k i (by omega)).1)⟩
theorem regex_Expr_compile.ok (k : Nat) : regex_Expr_compile.C k := (regex_Expr_compile.grp k k (Nat.le_refl k)).1
def regex_Parse.f (k : Nat) (x0 : ByteArray) : Option ((Option T_regex_Expr) × Int) := (if (x0.size : Int) > 100 then (some (none, 4)) else ((regex_signs.f k x0).bind fun y2 => (if y2.2 = true then ((rr_choices.f k (T_regex_reader.mk y2.1 false)).bind fun y8 => ((rr_peek.f k y8.2).bind fun y13 => (if y13.2.bad = true then (some (none, 14)) else (if y13.1.digits = true then (some (none, 14)) else (if y13.1.c = 0 then ((regex_Expr_compile.f k (T_regex_Expr.mk y8.1 []) y8.1).bind fun y23 => ((app 56 y23.prog ([(T_regex_step.mk 4 [] false false (0, 0))])).bind fun l31 => (some ((some (T_regex_Expr.mk y23.top l31)), 0)))) else (some (none, 14))))))) else (some (none, 14)))))
abbrev regex_Parse.C (k : Nat) : Prop := ∀ {x0 : ByteArray} {F : List It} {I : IMem} {w : World} {r : (Option T_regex_Expr) × Int}, Glob I → Own I w (F) → regex_Parse.f k x0 = some r →
    Calls Tryz.prog 43 #[.string x0] w fun e w' => ∃ v, e = .returned v ∧ ∃ (vy_0 : Value) (J : IMem), I.le J ∧ v = .tuple #[vy_0, .int .i64 r.2] ∧ PtR R_regex_Expr J vy_0 r.1 ∧ Own J w' (F)
theorem regex_Parse.ok (k : Nat) : regex_Parse.C k := by
 intro x0 F I w r hG S H
 have hI := ilr I
 rw [regex_Parse.f] at H
 refine Calls.ofFW (args := [.string x0]) Tryz.func43 rfl rfl <| sr <| mv (.pointer none) rfl <| mv (.int .i64 0) rfl <| sq <| sr <| mv (.string x0) rfl <| u rfl (x_lens tstr9 rfl) <| u rfl (x_bin rfl rfl rfl) ?_
 by_cases cc1 : (x0.size : Int) > 100
 ·rw [if_pos cc1] at H
  refine cT rfl (deT cc1) <| sr <| mv (.pointer none) rfl <| mv (.int .i64 4) rfl <| rt ?_
  obtain rfl := si H
  exact ⟨_, ⟨_, rfl, ⟨_, rfl, rfl⟩⟩, ⟨(.pointer none), I, hI, rfl, (PtR.nil _ _), S⟩⟩
 rw [if_neg cc1] at H
 refine cF rfl (deF cc1) <| sk <| sr <| mv (.string x0) rfl ?_
 obtain ⟨y2, hy3, H⟩ := obx H
 refine g rfl (cl fb81 (@regex_signs.ok k x0 _ _ _ _ hG S hy3) rfl ?_)
 rintro _ w ⟨vy2_0, J4, hJ5, rfl, hy2_0, S⟩
 have hI := hI.trans hJ5
 have hG := hG.mono hJ5
 refine mv (.tuple #[vy2_0, .bool y2.2]) rfl <| u rfl (x_ext rfl rfl) <| u rfl (x_ext rfl rfl) <| mv vy2_0 rfl <| mv (.bool y2.2) rfl <| sq <| sq <| FW.anew [(4, vy2_0), (5, .bool y2.2)] ⟨rfl, rfl, trivial⟩ fun σ => rg <| mv (.bool y2.2) rfl <| u rfl (x_not' rfl) ?_
 by_cases cc6 : y2.2 = true
 ·rw [if_pos cc6] at H
  refine cF rfl (noF cc6) <| sk <| sr <| mv vy2_0 rfl <| u rfl (x_bld tz117 tpl117 rfl (.one hy2_0.one PC.nil) rfl) <| g rfl (o_boxA rfl S fun b7 w S => mv (pt b7) rfl (sq (rg (mv (pt b7) rfl ?_))))
  obtain ⟨y8, hy9, H⟩ := obx H
  refine g rfl (cl fb82 (@rr_choices.ok k (T_regex_reader.mk y2.1 false) _ _ _ _ _ _ hG S hy2_0 hy9) rfl ?_)
  rintro _ w ⟨y8_0v1, y8_0v2, y8_1v0, J10, hJ11, rfl, y8_0h1, y8_0h2, y8_1h0, S⟩
  have hI := hI.trans hJ11
  have hG := hG.mono hJ11
  refine g rfl (o_all tz121 S fun b12 w S => g rfl (o_stA tag121 S 0 rfl rfl rfl rfl (c1 rfl (c1 y8_0h1.one (c1 y8_0h2.one (c1 rfl c0)))) rfl fun w S => sq (sq (FW.anew [(6, pt b7), (7, pt b12)] ⟨rfl, rfl, trivial⟩ fun σ => rg (mv (pt b7) rfl ?_)))))
  obtain ⟨y13, hy14, H⟩ := obx H
  refine g rfl (cl fb83 (@rr_peek.ok k y8.2 _ _ _ _ _ _ hG (S.sel 3 [1, 0, 2] rfl) y8_1h0 hy14) rfl ?_)
  rintro _ w ⟨y13_1v0, J15, hJ16, rfl, y13_1h0, S⟩
  have y8_0h1 := y8_0h1.mono hJ16
  have y8_0h2 := y8_0h2.mono hJ16
  have hI := hI.trans hJ16
  have hG := hG.mono hJ16
  refine g rfl (o_all tz124 S fun b17 w S => g rfl (o_stA tag124 S 0 rfl rfl rfl rfl (c1 rfl (c1 rfl (c1 rfl c0))) rfl fun w S => sq (rg (mv (pt b7) rfl (u rfl (x_nk rfl) (u rfl (x_fa tf117_1 rfl) (u rfl (x_ld tsc4 rfl (S.load 1 rfl 1 rfl)) (mv (.bool y13.2.bad) rfl ?_))))))))
  by_cases cc18 : y13.2.bad = true
  ·rw [if_pos cc18] at H
   refine gn rfl rfl rfl cc18 <| gn rfl rfl rfl cc18 <| u rfl (x_pickTV (v := .bool true) rfl cc18 rfl) <| mv (.bool true) rfl <| gn rfl rfl rfl rfl <| gn rfl rfl rfl rfl <| gn rfl rfl rfl rfl <| u rfl (x_pickTV (v := .bool true) rfl rfl rfl) <| cT rfl rfl <| sq <| FW.anew [] trivial fun σ => rg <| mv (.pointer none) rfl <| mv (.int .i64 14) rfl <| rt ?_
   obtain rfl := si H
   exact ⟨_, ⟨_, rfl, ⟨_, rfl, rfl⟩⟩, ⟨(.pointer none), J15, hI, rfl, (PtR.nil _ _), (S.sel 4 [] rfl)⟩⟩
  rw [if_neg cc18] at H
  refine gu rfl rfl rfl (vaF cc18) (x_fa tf124_2 rfl) <| gu rfl rfl rfl (vaF cc18) (x_ld tsc4 rfl (S.load 0 rfl 2 rfl)) <| u rfl (x_pickFV (v := .bool y13.1.digits) rfl (vaF cc18) rfl) <| mv (.bool y13.1.digits) rfl ?_
  by_cases cc19 : y13.1.digits = true
  ·rw [if_pos cc19] at H
   refine gn rfl rfl rfl cc19 <| gn rfl rfl rfl cc19 <| gn rfl rfl rfl cc19 <| u rfl (x_pickTV (v := .bool true) rfl cc19 rfl) <| cT rfl rfl <| sq <| FW.anew [] trivial fun σ => rg <| mv (.pointer none) rfl <| mv (.int .i64 14) rfl <| rt ?_
   obtain rfl := si H
   exact ⟨_, ⟨_, rfl, ⟨_, rfl, rfl⟩⟩, ⟨(.pointer none), J15, hI, rfl, (PtR.nil _ _), (S.sel 4 [] rfl)⟩⟩
  rw [if_neg cc19] at H
  refine gu rfl rfl rfl (vaF cc19) (x_fa tf124_0 rfl) <| gu rfl rfl rfl (vaF cc19) (x_ld tsc21 rfl (S.load 0 rfl 0 rfl)) <| gu rfl rfl rfl (vaF cc19) (x_bin rfl rfl rfl) <| u rfl (x_pickFV (v := .bool (y13.1.c != 0)) rfl (vaF cc19) rfl) ?_
  by_cases cc20 : y13.1.c = 0
  ·rw [if_pos cc20] at H
   refine cF rfl (neF cc20) <| sk <| sq <| FW.anew [(7, pt b12)] ⟨rfl, trivial⟩ fun σ => rg <| u rfl (x_ldA tag121 rfl (S.loadW 2 rfl) rfl) <| u rfl (x_bld tz128 tpl128 rfl (.agg PC.nil) rfl) <| g rfl (o_boxA rfl S fun b21 w S => mv (pt b21) rfl (sq (rg (mv (pt b21) rfl (u rfl (x_ldA tag121 rfl (S.loadW 3 rfl) rfl) ?_)))))
   have S := S.nil_av 132 6
   obtain ⟨y23, hy24, H⟩ := obx H
   refine g rfl (cl fb84 (@regex_Expr_compile.ok k (T_regex_Expr.mk y8.1 []) y8.1 _ _ _ _ _ _ _ _ _ _ _ hG (S.sel 6 [1, 0, 2, 3, 4, 5] rfl) y8_0h1 y8_0h2 (Flat.nil' _ _) y8_0h1 y8_0h2 hy24) rfl ?_)
   rintro _ w ⟨y23_0v1, y23_0v2, y23_0v4, cy23_0_4, J25, hJ26, rfl, y23_0h1, y23_0h2, y23_0h4, S⟩
   have hI := hI.trans hJ26
   refine sq <| FW.anew [(9, pt b21)] ⟨rfl, trivial⟩ fun σ => rg <| mv (pt b21) rfl <| mv (pt b21) rfl <| u rfl (x_nk rfl) <| u rfl (x_fa tf128_1 rfl) <| u rfl (x_ld tsc126 rfl (S.load 0 rfl 4 rfl)) <| u rfl (x_bld tz132 tpl132 rfl (.one rfl PC.nil) rfl) <| g rfl (o_bsl tsl126 tz132 rfl rfl rfl rfl (.agg PC.nil) rfl S fun b27 w S => ?_)
   obtain ⟨J28, hJ30, S, h29⟩ := S.freeze (r := R_regex_step) (l := [(T_regex_step.mk 4 [] false false (0, 0))]) 0 rfl ⟨[.int .i64 4, (.slice none 0 0), .bool false, .bool false, .int .i64 0, .int .i64 0], _, rfl, ⟨(.slice none 0 0), rfl, (SlR.nil _ _)⟩, rfl⟩ rfl rfl
   have y23_0h1 := y23_0h1.mono hJ30
   have y23_0h2 := y23_0h2.mono hJ30
   have y23_0h4 := y23_0h4.mono hJ30
   have hI := hI.trans hJ30
   obtain ⟨l31, h33, H⟩ := obx H
   refine g rfl (o_appV (r := R_regex_step) tsl126 rfl tz132 rfl rfl S 2 rfl rfl y23_0h4 h29 h33 fun v32 w a35 S h34 => u rfl (x_nk rfl) (u rfl (x_fa tf128_1 rfl) (g rfl (o_st tone126 S 1 rfl rfl rfl (av_one S 2 rfl) fun w S => sq (FW.anew [(9, pt b21)] ⟨rfl, trivial⟩ fun σ => rg (mv (pt b21) rfl (mv (pt b21) rfl (mv (.int .i64 0) rfl (rt ?_)))))))))
   obtain ⟨J36, hJ38, S, h37⟩ := S.freeze (r := R_regex_step) (l := l31) 2 rfl h34 rfl rfl
   have y23_0h1 := y23_0h1.mono hJ38
   have y23_0h2 := y23_0h2.mono hJ38
   have hI := hI.trans hJ38
   obtain ⟨J39, hJ41, S, h40⟩ := S.freezeB (r := R_regex_Expr) (x := (T_regex_Expr.mk y23.top l31)) 1 rfl ⟨y23_0v1, y23_0v2, v32, rfl, y23_0h1, y23_0h2, h37⟩
   have hI := hI.trans hJ41
   obtain rfl := si H
   exact ⟨_, ⟨_, rfl, ⟨_, rfl, rfl⟩⟩, ⟨(pt b21), J39, hI, rfl, h40, (S.sel 6 [] rfl)⟩⟩
  rw [if_neg cc20] at H
  refine cT rfl (neT cc20) <| sq <| FW.anew [] trivial fun σ => rg <| mv (.pointer none) rfl <| mv (.int .i64 14) rfl <| rt ?_
  obtain rfl := si H
  exact ⟨_, ⟨_, rfl, ⟨_, rfl, rfl⟩⟩, ⟨(.pointer none), J15, hI, rfl, (PtR.nil _ _), (S.sel 4 [] rfl)⟩⟩
 rw [if_neg cc6] at H
 refine cT rfl (noT (vaF cc6)) <| sr <| mv (.pointer none) rfl <| mv (.int .i64 14) rfl <| rt ?_
 obtain rfl := si H
 exact ⟨_, ⟨_, rfl, ⟨_, rfl, rfl⟩⟩, ⟨(.pointer none), J4, hI, rfl, (PtR.nil _ _), (S.sel 1 [] rfl)⟩⟩
def policy_RightCond.f (k : Nat) (x0 : T_api_Cond) : Option Bool := ((if x0.Kind = 0 then (some (x0.Kind == 0)) else (some (x0.Kind == 5))).bind fun b3 => (if b3 = true then (some true) else (if x0.Kind = 1 then (if (x0.Range.length : Int) ≤ 16 then ((sC_42_w140.f k x0.Range).bind fun y11 => (some (!y11))) else (some false)) else (if x0.Kind = 2 then ((regex_Parse.f k x0.Text).bind fun y14 => (some (y14.2 == 0))) else (if x0.Kind = 3 then (some (decide ((x0.Comms.length : Int) ≤ 32))) else (if x0.Kind = 4 then (if x0.Num ≥ 0 then (some (decide (x0.Num ≤ 64))) else (some false)) else (if x0.Kind = 6 then (if x0.Num ≥ 0 then (some (decide (x0.Num ≤ 2))) else (some false)) else (some false))))))))
abbrev policy_RightCond.C (k : Nat) : Prop := ∀ {x0 : T_api_Cond} {x0v5 : Value} {x0v6 : Value} {F : List It} {I : IMem} {w : World} {r : Bool}, Glob I → Own I w (F) → SlR R_api_Range I x0v5 x0.Range → SlR (tInt' .u32) I x0v6 x0.Comms → policy_RightCond.f k x0 = some r →
    Calls Tryz.prog 14 #[.agg #[.int .i64 x0.Kind, .bool x0.Not, .int .i64 x0.Num, .int .u32 x0.Addr, .string x0.Text, x0v5, x0v6]] w fun e w' => ∃ v, e = .returned v ∧ v = .bool r ∧ Own I w' (F)
theorem policy_RightCond.ok (k : Nat) : policy_RightCond.C k := by
 intro x0 x0v5 x0v6 F I w r hG S x0h5 x0h6 H
 have hI := ilr I
 rw [policy_RightCond.f] at H
 refine Calls.ofFW (args := [.agg #[.int .i64 x0.Kind, .bool x0.Not, .int .i64 x0.Num, .int .u32 x0.Addr, .string x0.Text, x0v5, x0v6]]) Tryz.func14 rfl rfl <| sr <| g rfl (o_boxA rfl S fun b1 w S => mv (.bool false) rfl (sq (sq (rg (u rfl (x_fa tf27_0 rfl) (u rfl (x_ld tsc3 rfl (S.load 0 rfl 0 rfl)) (bk (sq (sq (rg (u rfl (x_bin rfl rfl rfl) (mv (.bool (x0.Kind == 0)) rfl ?_))))))))))))
 obtain ⟨o4, H, HO5⟩ := obx H
 have hL6 := ilr I
 refine FW.cutN (fun σ w => ∃ (b3 : Bool) (J2 : IMem), b3 = o4 ∧ Has σ [(1, pt b1), (7, .int .i64 x0.Kind), (8, .bool b3)] ∧ I.le J2 ∧ Own J2 w (.bk b1 27 [.int .i64 x0.Kind, .bool x0.Not, .int .i64 x0.Num, .int .u32 x0.Addr, .string x0.Text, x0v5, x0v6] :: F)) ?_ ?_
 ·by_cases cc7 : x0.Kind = 0
  ·rw [if_pos cc7] at H
   refine cT rfl (eqT cc7) <| sk ⟨(x0.Kind == 0), I, (si H), ⟨rfl, rfl, rfl, trivial⟩, hL6, S⟩
  rw [if_neg cc7] at H
  refine cF rfl (eqF cc7) <| rg <| u rfl (x_bin rfl rfl rfl) <| mv (.bool (x0.Kind == 5)) rfl ⟨(x0.Kind == 5), I, (si H), ⟨rfl, rfl, rfl, trivial⟩, hL6, S⟩
 rintro σ w ⟨b3, J2, ho, hσ, hL6, S⟩
 subst ho
 have H := HO5
 have x0h5 := x0h5.mono hL6
 have x0h6 := x0h6.mono hL6
 have hI := hI.trans hL6
 have hG := hG.mono hL6
 rw [hσ.eq]
 by_cases cc8 : b3 = true
 ·rw [if_pos cc8] at H
  refine cT rfl cc8 <| sr <| mv (.bool true) rfl <| rt ?_
  obtain rfl := si H
  exact ⟨_, ⟨_, rfl, rfl⟩, ⟨rfl, ((S.sel 1 [] rfl).weaken hI)⟩⟩
 rw [if_neg cc8] at H
 refine cF rfl (vaF cc8) <| sr <| u rfl (x_bin rfl rfl rfl) <| mv (.bool (x0.Kind == 1)) rfl ?_
 by_cases cc9 : x0.Kind = 1
 ·rw [if_pos cc9] at H
  refine cT rfl (eqT cc9) <| sr <| mv (.func (.func 40) #[] #[]) rfl <| sr <| u rfl (x_fa tf27_5 rfl) <| u rfl (x_ld tsc24 rfl (S.load 0 rfl 5 rfl)) <| u rfl (x_lenD (r := R_api_Range) tsl24 x0h5) <| u rfl (x_bin rfl rfl rfl) <| mv (.bool (decide ((x0.Range.length : Int) ≤ 16))) rfl ?_
  by_cases cc10 : (x0.Range.length : Int) ≤ 16
  ·rw [if_pos cc10] at H
   refine gu rfl rfl rfl (deT cc10) (x_fa tf27_5 rfl) <| gu rfl rfl rfl (deT cc10) (x_ld tsc24 rfl (S.load 0 rfl 5 rfl)) <| gu rfl rfl rfl (deT cc10) (x_movV (v := .func (.func 40) #[] #[]) rfl) ?_
   obtain ⟨y11, hy12, H⟩ := obx H
   refine OK.gt rfl rfl rfl (deT cc10) (cl fb42 (@sC_42_w140.ok k x0.Range _ _ _ _ _ hG S x0h5 hy12) rfl ?_)
   rintro _ w ⟨rfl, S⟩
   refine gu rfl rfl rfl (deT cc10) (x_not' rfl) <| u rfl (x_pickTV (v := .bool (!y11)) rfl (deT cc10) rfl) <| mv (.bool (!y11)) rfl <| rt ?_
   obtain rfl := si H
   exact ⟨_, ⟨_, rfl, rfl⟩, ⟨rfl, ((S.sel 1 [] rfl).weaken hI)⟩⟩
  rw [if_neg cc10] at H
  refine gn rfl rfl rfl (deF cc10) <| gn rfl rfl rfl (deF cc10) <| gn rfl rfl rfl (deF cc10) <| gn rfl rfl rfl (deF cc10) <| gn rfl rfl rfl (deF cc10) <| u rfl (x_pickFV (v := .bool false) rfl (deF cc10) rfl) <| mv (.bool false) rfl <| rt ?_
  obtain rfl := si H
  exact ⟨_, ⟨_, rfl, rfl⟩, ⟨rfl, ((S.sel 1 [] rfl).weaken hI)⟩⟩
 rw [if_neg cc9] at H
 refine cF rfl (eqF cc9) <| sr <| u rfl (x_bin rfl rfl rfl) <| mv (.bool (x0.Kind == 2)) rfl ?_
 by_cases cc13 : x0.Kind = 2
 ·rw [if_pos cc13] at H
  refine cT rfl (eqT cc13) <| sr <| u rfl (x_fa tf27_4 rfl) <| u rfl (x_ld tsc9 rfl (S.load 0 rfl 4 rfl)) ?_
  obtain ⟨y14, hy15, H⟩ := obx H
  refine g rfl (cl fb43 (@regex_Parse.ok k x0.Text _ _ _ _ hG S hy15) rfl ?_)
  rintro _ w ⟨vy14_0, J16, hJ17, rfl, hy14_0, S⟩
  have hI := hI.trans hJ17
  refine mv (.tuple #[vy14_0, .int .i64 y14.2]) rfl <| u rfl (x_ext rfl rfl) <| u rfl (x_ext rfl rfl) <| mv vy14_0 rfl <| mv (.int .i64 y14.2) rfl <| sq <| FW.anew [(5, .int .i64 y14.2)] ⟨rfl, trivial⟩ fun σ => rg <| mv (.int .i64 y14.2) rfl <| u rfl (x_bin rfl rfl rfl) <| mv (.bool (y14.2 == 0)) rfl <| rt ?_
  obtain rfl := si H
  exact ⟨_, ⟨_, rfl, rfl⟩, ⟨rfl, ((S.sel 1 [] rfl).weaken hI)⟩⟩
 rw [if_neg cc13] at H
 refine cF rfl (eqF cc13) <| sr <| u rfl (x_bin rfl rfl rfl) <| mv (.bool (x0.Kind == 3)) rfl ?_
 by_cases cc18 : x0.Kind = 3
 ·rw [if_pos cc18] at H
  refine cT rfl (eqT cc18) <| sr <| u rfl (x_fa tf27_6 rfl) <| u rfl (x_ld tsc25 rfl (S.load 0 rfl 6 rfl)) <| u rfl (x_lenD (r := (tInt' .u32)) tsl25 x0h6) <| u rfl (x_bin rfl rfl rfl) <| mv (.bool (decide ((x0.Comms.length : Int) ≤ 32))) rfl <| rt ?_
  obtain rfl := si H
  exact ⟨_, ⟨_, rfl, rfl⟩, ⟨rfl, ((S.sel 1 [] rfl).weaken hI)⟩⟩
 rw [if_neg cc18] at H
 refine cF rfl (eqF cc18) <| sr <| u rfl (x_bin rfl rfl rfl) <| mv (.bool (x0.Kind == 4)) rfl ?_
 by_cases cc19 : x0.Kind = 4
 ·rw [if_pos cc19] at H
  refine cT rfl (eqT cc19) <| sq <| FW.anew [(1, pt b1)] ⟨rfl, trivial⟩ fun σ => rg <| u rfl (x_fa tf27_2 rfl) <| u rfl (x_ld tsc3 rfl (S.load 0 rfl 2 rfl)) <| u rfl (x_bin rfl rfl rfl) <| mv (.bool (decide (x0.Num ≥ 0))) rfl ?_
  by_cases cc20 : x0.Num ≥ 0
  ·rw [if_pos cc20] at H
   refine gu rfl rfl rfl (deT cc20) (x_fa tf27_2 rfl) <| gu rfl rfl rfl (deT cc20) (x_ld tsc3 rfl (S.load 0 rfl 2 rfl)) <| gu rfl rfl rfl (deT cc20) (x_bin rfl rfl rfl) <| u rfl (x_pickTV (v := .bool (decide (x0.Num ≤ 64))) rfl (deT cc20) rfl) <| mv (.bool (decide (x0.Num ≤ 64))) rfl <| rt ?_
   obtain rfl := si H
   exact ⟨_, ⟨_, rfl, rfl⟩, ⟨rfl, ((S.sel 1 [] rfl).weaken hI)⟩⟩
  rw [if_neg cc20] at H
  refine gn rfl rfl rfl (deF cc20) <| gn rfl rfl rfl (deF cc20) <| gn rfl rfl rfl (deF cc20) <| u rfl (x_pickFV (v := .bool false) rfl (deF cc20) rfl) <| mv (.bool false) rfl <| rt ?_
  obtain rfl := si H
  exact ⟨_, ⟨_, rfl, rfl⟩, ⟨rfl, ((S.sel 1 [] rfl).weaken hI)⟩⟩
 rw [if_neg cc19] at H
 refine cF rfl (eqF cc19) <| sq <| FW.anew [(1, pt b1), (7, .int .i64 x0.Kind)] ⟨rfl, rfl, trivial⟩ fun σ => rg <| u rfl (x_bin rfl rfl rfl) <| mv (.bool (x0.Kind == 6)) rfl ?_
 by_cases cc21 : x0.Kind = 6
 ·rw [if_pos cc21] at H
  refine cT rfl (eqT cc21) <| sr <| u rfl (x_fa tf27_2 rfl) <| u rfl (x_ld tsc3 rfl (S.load 0 rfl 2 rfl)) <| u rfl (x_bin rfl rfl rfl) <| mv (.bool (decide (x0.Num ≥ 0))) rfl ?_
  by_cases cc22 : x0.Num ≥ 0
  ·rw [if_pos cc22] at H
   refine gu rfl rfl rfl (deT cc22) (x_fa tf27_2 rfl) <| gu rfl rfl rfl (deT cc22) (x_ld tsc3 rfl (S.load 0 rfl 2 rfl)) <| gu rfl rfl rfl (deT cc22) (x_bin rfl rfl rfl) <| u rfl (x_pickTV (v := .bool (decide (x0.Num ≤ 2))) rfl (deT cc22) rfl) <| mv (.bool (decide (x0.Num ≤ 2))) rfl <| rt ?_
   obtain rfl := si H
   exact ⟨_, ⟨_, rfl, rfl⟩, ⟨rfl, ((S.sel 1 [] rfl).weaken hI)⟩⟩
  rw [if_neg cc22] at H
  refine gn rfl rfl rfl (deF cc22) <| gn rfl rfl rfl (deF cc22) <| gn rfl rfl rfl (deF cc22) <| u rfl (x_pickFV (v := .bool false) rfl (deF cc22) rfl) <| mv (.bool false) rfl <| rt ?_
  obtain rfl := si H
  exact ⟨_, ⟨_, rfl, rfl⟩, ⟨rfl, ((S.sel 1 [] rfl).weaken hI)⟩⟩
 rw [if_neg cc21] at H
 refine cF rfl (eqF cc21) <| sk <| sr <| mv (.bool false) rfl <| rt ?_
 obtain rfl := si H
 exact ⟨_, ⟨_, rfl, rfl⟩, ⟨rfl, ((S.sel 1 [] rfl).weaken hI)⟩⟩
def policy_rule_1.f (k : Nat) (x0 : T_api_Cond) : Option Bool := ((policy_RightCond.f k x0).bind fun y2 => (some (!y2)))
abbrev policy_rule_1.C (k : Nat) : Prop := ∀ {x0 : T_api_Cond} {x0v5 : Value} {x0v6 : Value} {F : List It} {I : IMem} {w : World} {r : Bool}, Glob I → Own I w (F) → SlR R_api_Range I x0v5 x0.Range → SlR (tInt' .u32) I x0v6 x0.Comms → policy_rule_1.f k x0 = some r →
    Calls Tryz.prog 75 #[.agg #[.int .i64 x0.Kind, .bool x0.Not, .int .i64 x0.Num, .int .u32 x0.Addr, .string x0.Text, x0v5, x0v6]] w fun e w' => ∃ v, e = .returned v ∧ v = .bool r ∧ Own I w' (F)
theorem policy_rule_1.ok (k : Nat) : policy_rule_1.C k := by
 intro x0 x0v5 x0v6 F I w r hG S x0h5 x0h6 H
 have hI := ilr I
 rw [policy_rule_1.f] at H
 refine Calls.ofFW (args := [.agg #[.int .i64 x0.Kind, .bool x0.Not, .int .i64 x0.Num, .int .u32 x0.Addr, .string x0.Text, x0v5, x0v6]]) Tryz.func75 rfl rfl <| sr <| g rfl (o_boxA rfl S fun b1 w S => mv (.bool false) rfl (sq (rg (u rfl (x_ldA tag27 rfl (S.loadW 0 rfl) rfl) ?_))))
 obtain ⟨y2, hy3, H⟩ := obx H
 refine g rfl (cl fb14 (@policy_RightCond.ok k x0 _ _ _ _ _ _ hG S x0h5 x0h6 hy3) rfl ?_)
 rintro _ w ⟨rfl, S⟩
 refine u rfl (x_not' rfl) <| mv (.bool (!y2)) rfl <| rt ?_
 obtain rfl := si H
 exact ⟨_, ⟨_, rfl, rfl⟩, ⟨rfl, ((S.sel 1 [] rfl).weaken hI)⟩⟩
def sI_109_w175.l0 : Nat → (List T_api_Cond) → Int → Option (Sum Int Unit)
  | 0, _, _ => none
  | k + 1, x0, n2 => (if n2 < (x0.length : Int) then ((lat x0 n2).bind fun y11 => ((policy_rule_1.f k y11).bind fun y18 => (if y18 = true then (some (.inl n2)) else (sI_109_w175.l0 k x0 (i64 (n2 + 1)))))) else (some (.inr ())))
def sI_109_w175.f (k : Nat) (x0 : (List T_api_Cond)) : Option Int := (((sI_109_w175.l0 k x0 0) : Option (Sum Int Unit)).bind fun o => match o with | .inl r => some r | .inr _ => (some (-1)))
abbrev sI_109_w175.C (k : Nat) : Prop := ∀ {x0 : (List T_api_Cond)} {vx0 : Value} {F : List It} {I : IMem} {w : World} {r : Int}, Glob I → Own I w (F) → SlR R_api_Cond I vx0 x0 → sI_109_w175.f k x0 = some r →
    Calls Tryz.prog 109 #[vx0, .func (.func 75) #[] #[]] w fun e w' => ∃ v, e = .returned v ∧ v = .int .i64 r ∧ Own I w' (F)
theorem sI_109_w175.ok (k : Nat) : sI_109_w175.C k := by
 intro x0 vx0 F I w r hG S hx0 H
 have hI := ilr I
 rw [sI_109_w175.f] at H
 refine Calls.ofFW (args := [vx0, .func (.func 75) #[] #[]]) Tryz.func109 rfl rfl <| sr <| mv (.int .i64 0) rfl <| sq <| sr <| mv vx0 rfl <| u rfl (x_lenD (r := R_api_Cond) tsl48 hx0) <| mv (.int .i64 0) rfl <| bk ?_
 obtain ⟨o5, hl7, HO6⟩ := obx H
 refine FW.cutX 0 (fun σ w => ∃ (J8 : IMem), (.inr ()) = o5 ∧ Has σ [] ∧ I.le J8 ∧ Own J8 w (F)) ?_ ?_
 ·refine FW.loop k (FL.ind (fun q σ w => ∃ (n2 : Int) (J1 : IMem), sI_109_w175.l0 q x0 n2 = some o5 ∧ q ≤ k ∧ Has σ [(0, vx0), (1, .func (.func 75) #[] #[]), (7, .int .i64 (x0.length : Int)), (8, .int .i64 n2)] ∧ I.le J1 ∧ Own J1 w (F)) ?_ ?_ k k _ _ (Nat.le_refl _) ⟨0, I, hl7, Nat.le_refl _, ⟨rfl, rfl, rfl, rfl, trivial⟩, (ilr _), S⟩)
  ·rintro σ w ⟨n2, J1, H, _⟩; cases H
  rintro q3 σ w ⟨n2, J1, H, hq9, hσ, hL4, S⟩
  have hx0 := hx0.mono hL4
  have hI := hI.trans hL4
  have hG := hG.mono hL4
  rw [hσ.eq]
  rw [sI_109_w175.l0] at H
  refine sr <| u rfl (x_bin rfl rfl rfl) <| sq ?_
  by_cases cc10 : n2 < (x0.length : Int)
  ·rw [if_pos cc10] at H
   refine cT rfl (deT cc10) <| sk <| sq <| bk <| sr <| mv (.int .i64 n2) rfl <| mv (.int .i64 n2) rfl <| sr <| mv (.func (.func 75) #[] #[]) rfl <| mv vx0 rfl <| mv (.int .i64 n2) rfl ?_
   obtain ⟨y11, h12, H⟩ := obx H
   refine g rfl (o_ia (r := R_api_Cond) tsl48 rfl rfl hx0 rfl h12 fun b13 o14 cs15 hr16 hc17 => ?_)
   obtain ⟨y11v5, y11v6, rfl, y11h5, y11h6⟩ := hr16
   refine u rfl (x_ldA tag27 rfl (S.loadI hc17) rfl) ?_
   obtain ⟨y18, hy19, H⟩ := obx H
   refine g rfl (clv rfl fb75 (@policy_rule_1.ok q3 y11 _ _ _ _ _ _ hG S y11h5 y11h6 hy19) rfl ?_)
   rintro _ w ⟨rfl, S⟩
   by_cases cc20 : y18 = true
   ·rw [if_pos cc20] at H
    refine cT rfl cc20 <| sq <| FW.anew [(5, .int .i64 n2)] ⟨rfl, trivial⟩ fun σ => rg <| mv (.int .i64 n2) rfl <| mv (.int .i64 n2) rfl <| rt ?_
    obtain rfl := si H
    obtain rfl := si HO6
    exact ⟨_, ⟨_, rfl, rfl⟩, ⟨rfl, (S.weaken hI)⟩⟩
   rw [if_neg cc20] at H
   refine cF rfl (vaF cc20) <| sk <| FW.anew [(0, vx0), (1, .func (.func 75) #[] #[]), (7, .int .i64 (x0.length : Int)), (8, .int .i64 n2)] ⟨rfl, rfl, rfl, rfl, trivial⟩ fun σ => rg <| u rfl (x_bin rfl rfl rfl) <| mv (.int .i64 (i64 (n2 + 1))) rfl ⟨q3, Nat.le_refl _, (i64 (n2 + 1)), J1, H, (Nat.le_of_succ_le hq9), ⟨rfl, rfl, rfl, rfl, trivial⟩, hL4, S⟩
  rw [if_neg cc10] at H
  refine cF rfl (deF cc10) <| ex ⟨J1, (si H), trivial, hL4, S⟩
 rintro σ w ⟨J8, ho, hσ, hL4, S⟩
 subst ho
 have H := HO6
 try dsimp only at H
 have hI := hI.trans hL4
 rw [hσ.eq]
 refine sr <| mv (.int .i64 (-1)) rfl <| rt ?_
 obtain rfl := si H
 exact ⟨_, ⟨_, rfl, rfl⟩, ⟨rfl, (S.weaken hI)⟩⟩
def sC_77_w175.f (k : Nat) (x0 : (List T_api_Cond)) : Option Bool := ((sI_109_w175.f k x0).bind fun y1 => (some (decide (y1 ≥ 0))))
abbrev sC_77_w175.C (k : Nat) : Prop := ∀ {x0 : (List T_api_Cond)} {vx0 : Value} {F : List It} {I : IMem} {w : World} {r : Bool}, Glob I → Own I w (F) → SlR R_api_Cond I vx0 x0 → sC_77_w175.f k x0 = some r →
    Calls Tryz.prog 77 #[vx0, .func (.func 75) #[] #[]] w fun e w' => ∃ v, e = .returned v ∧ v = .bool r ∧ Own I w' (F)
theorem sC_77_w175.ok (k : Nat) : sC_77_w175.C k := by
 intro x0 vx0 F I w r hG S hx0 H
 have hI := ilr I
 rw [sC_77_w175.f] at H
 refine Calls.ofFW (args := [vx0, .func (.func 75) #[] #[]]) Tryz.func77 rfl rfl <| sr <| mv (.bool false) rfl <| sr <| mv vx0 rfl <| mv (.func (.func 75) #[] #[]) rfl ?_
 obtain ⟨y1, hy2, H⟩ := obx H
 refine g rfl (cl fb109 (@sI_109_w175.ok k x0 _ _ _ _ _ hG S hx0 hy2) rfl ?_)
 rintro _ w ⟨rfl, S⟩
 refine u rfl (x_bin rfl rfl rfl) <| mv (.bool (decide (y1 ≥ 0))) rfl <| rt ?_
 obtain rfl := si H
 exact ⟨_, ⟨_, rfl, rfl⟩, ⟨rfl, (S.weaken hI)⟩⟩
def attrs_Next.f (k : Nat) (x0 : Int) : Option Bool := (if (shr .u32 x0 24) = 0 then (some false) else (if (shr .u32 x0 24) = 127 then (some false) else (some (decide ((shr .u32 x0 24) < 224)))))
abbrev attrs_Next.C (k : Nat) : Prop := ∀ {x0 : Int} {F : List It} {I : IMem} {w : World} {r : Bool}, Glob I → Own I w (F) → attrs_Next.f k x0 = some r →
    Calls Tryz.prog 46 #[.int .u32 x0] w fun e w' => ∃ v, e = .returned v ∧ v = .bool r ∧ Own I w' (F)
theorem attrs_Next.ok (k : Nat) : attrs_Next.C k := by
 intro x0 F I w r hG S H
 have hI := ilr I
 rw [attrs_Next.f] at H
 refine Calls.ofFW (args := [.int .u32 x0]) Tryz.func46 rfl rfl <| sr <| mv (.bool false) rfl <| sr <| mv (.int .u32 x0) rfl <| u rfl (x_shr rfl rfl (by decide)) <| mv (.int .u32 (shr .u32 x0 24)) rfl <| sr <| mv (.int .u32 (shr .u32 x0 24)) rfl <| u rfl (x_bin rfl rfl rfl) <| mv (.bool ((shr .u32 x0 24) != 0)) rfl ?_
 by_cases cc1 : (shr .u32 x0 24) = 0
 ·rw [if_pos cc1] at H
  refine gn rfl rfl rfl (neF cc1) <| gn rfl rfl rfl (neF cc1) <| u rfl (x_pickFV (v := .bool false) rfl (neF cc1) rfl) <| mv (.bool false) rfl <| gn rfl rfl rfl rfl <| gn rfl rfl rfl rfl <| u rfl (x_pickFV (v := .bool false) rfl rfl rfl) <| mv (.bool false) rfl <| rt ?_
  obtain rfl := si H
  exact ⟨_, ⟨_, rfl, rfl⟩, ⟨rfl, (S.weaken hI)⟩⟩
 rw [if_neg cc1] at H
 refine gu rfl rfl rfl (neT cc1) (x_movV (v := .int .u32 (shr .u32 x0 24)) rfl) <| gu rfl rfl rfl (neT cc1) (x_bin rfl rfl rfl) <| u rfl (x_pickTV (v := .bool ((shr .u32 x0 24) != 127)) rfl (neT cc1) rfl) <| mv (.bool ((shr .u32 x0 24) != 127)) rfl ?_
 by_cases cc2 : (shr .u32 x0 24) = 127
 ·rw [if_pos cc2] at H
  refine gn rfl rfl rfl (neF cc2) <| gn rfl rfl rfl (neF cc2) <| u rfl (x_pickFV (v := .bool false) rfl (neF cc2) rfl) <| mv (.bool false) rfl <| rt ?_
  obtain rfl := si H
  exact ⟨_, ⟨_, rfl, rfl⟩, ⟨rfl, (S.weaken hI)⟩⟩
 rw [if_neg cc2] at H
 refine gu rfl rfl rfl (neT cc2) (x_movV (v := .int .u32 (shr .u32 x0 24)) rfl) <| gu rfl rfl rfl (neT cc2) (x_bin rfl rfl rfl) <| u rfl (x_pickTV (v := .bool (decide ((shr .u32 x0 24) < 224))) rfl (neT cc2) rfl) <| mv (.bool (decide ((shr .u32 x0 24) < 224))) rfl <| rt ?_
 obtain rfl := si H
 exact ⟨_, ⟨_, rfl, rfl⟩, ⟨rfl, (S.weaken hI)⟩⟩
def policy_RightDeed.f (k : Nat) (x0 : T_api_Deed) : Option Bool := (if x0.Kind = 1 then (if x0.Num ≥ 0 then (some (decide (x0.Num ≤ 4294967295))) else (some false)) else (if x0.Kind = 2 then (if x0.Num ≥ (-1) then (some (decide (x0.Num ≤ 4294967295))) else (some false)) else (if x0.Kind = 3 then (if x0.Num ≥ 1 then (some (decide (x0.Num ≤ 8))) else (some false)) else (if x0.Kind = 4 then (some true) else (if x0.Kind = 5 then (some true) else (if x0.Kind = 7 then (some true) else (if x0.Kind = 6 then ((attrs_Next.f k x0.Addr).bind fun y12 => (some y12)) else (some false))))))))
abbrev policy_RightDeed.C (k : Nat) : Prop := ∀ {x0 : T_api_Deed} {F : List It} {I : IMem} {w : World} {r : Bool}, Glob I → Own I w (F) → policy_RightDeed.f k x0 = some r →
    Calls Tryz.prog 16 #[.agg #[.int .i64 x0.Kind, .int .i64 x0.Num, .int .u32 x0.Addr]] w fun e w' => ∃ v, e = .returned v ∧ v = .bool r ∧ Own I w' (F)
theorem policy_RightDeed.ok (k : Nat) : policy_RightDeed.C k := by
 intro x0 F I w r hG S H
 have hI := ilr I
 rw [policy_RightDeed.f] at H
 refine Calls.ofFW (args := [.agg #[.int .i64 x0.Kind, .int .i64 x0.Num, .int .u32 x0.Addr]]) Tryz.func16 rfl rfl <| sr <| g rfl (o_boxA rfl S fun b1 w S => mv (.bool false) rfl (sq (sq (rg (u rfl (x_fa tf29_0 rfl) (u rfl (x_ld tsc3 rfl (S.load 0 rfl 0 rfl)) (bk (sq (rg (u rfl (x_bin rfl rfl rfl) (mv (.bool (x0.Kind == 1)) rfl ?_)))))))))))
 by_cases cc2 : x0.Kind = 1
 ·rw [if_pos cc2] at H
  refine cT rfl (eqT cc2) <| sr <| u rfl (x_fa tf29_1 rfl) <| u rfl (x_ld tsc3 rfl (S.load 0 rfl 1 rfl)) <| u rfl (x_bin rfl rfl rfl) <| mv (.bool (decide (x0.Num ≥ 0))) rfl ?_
  by_cases cc3 : x0.Num ≥ 0
  ·rw [if_pos cc3] at H
   refine gu rfl rfl rfl (deT cc3) (x_fa tf29_1 rfl) <| gu rfl rfl rfl (deT cc3) (x_ld tsc3 rfl (S.load 0 rfl 1 rfl)) <| gu rfl rfl rfl (deT cc3) (x_bin rfl rfl rfl) <| u rfl (x_pickTV (v := .bool (decide (x0.Num ≤ 4294967295))) rfl (deT cc3) rfl) <| mv (.bool (decide (x0.Num ≤ 4294967295))) rfl <| rt ?_
   obtain rfl := si H
   exact ⟨_, ⟨_, rfl, rfl⟩, ⟨rfl, ((S.sel 1 [] rfl).weaken hI)⟩⟩
  rw [if_neg cc3] at H
  refine gn rfl rfl rfl (deF cc3) <| gn rfl rfl rfl (deF cc3) <| gn rfl rfl rfl (deF cc3) <| u rfl (x_pickFV (v := .bool false) rfl (deF cc3) rfl) <| mv (.bool false) rfl <| rt ?_
  obtain rfl := si H
  exact ⟨_, ⟨_, rfl, rfl⟩, ⟨rfl, ((S.sel 1 [] rfl).weaken hI)⟩⟩
 rw [if_neg cc2] at H
 refine cF rfl (eqF cc2) <| sr <| u rfl (x_bin rfl rfl rfl) <| mv (.bool (x0.Kind == 2)) rfl ?_
 by_cases cc4 : x0.Kind = 2
 ·rw [if_pos cc4] at H
  refine cT rfl (eqT cc4) <| sq <| FW.anew [(1, pt b1)] ⟨rfl, trivial⟩ fun σ => rg <| u rfl (x_fa tf29_1 rfl) <| u rfl (x_ld tsc3 rfl (S.load 0 rfl 1 rfl)) <| u rfl (x_bin rfl rfl rfl) <| mv (.bool (decide (x0.Num ≥ (-1)))) rfl ?_
  by_cases cc5 : x0.Num ≥ (-1)
  ·rw [if_pos cc5] at H
   refine gu rfl rfl rfl (deT cc5) (x_fa tf29_1 rfl) <| gu rfl rfl rfl (deT cc5) (x_ld tsc3 rfl (S.load 0 rfl 1 rfl)) <| gu rfl rfl rfl (deT cc5) (x_bin rfl rfl rfl) <| u rfl (x_pickTV (v := .bool (decide (x0.Num ≤ 4294967295))) rfl (deT cc5) rfl) <| mv (.bool (decide (x0.Num ≤ 4294967295))) rfl <| rt ?_
   obtain rfl := si H
   exact ⟨_, ⟨_, rfl, rfl⟩, ⟨rfl, ((S.sel 1 [] rfl).weaken hI)⟩⟩
  rw [if_neg cc5] at H
  refine gn rfl rfl rfl (deF cc5) <| gn rfl rfl rfl (deF cc5) <| gn rfl rfl rfl (deF cc5) <| u rfl (x_pickFV (v := .bool false) rfl (deF cc5) rfl) <| mv (.bool false) rfl <| rt ?_
  obtain rfl := si H
  exact ⟨_, ⟨_, rfl, rfl⟩, ⟨rfl, ((S.sel 1 [] rfl).weaken hI)⟩⟩
 rw [if_neg cc4] at H
 refine cF rfl (eqF cc4) <| sq <| FW.anew [(1, pt b1), (4, .int .i64 x0.Kind)] ⟨rfl, rfl, trivial⟩ fun σ => rg <| u rfl (x_bin rfl rfl rfl) <| mv (.bool (x0.Kind == 3)) rfl ?_
 by_cases cc6 : x0.Kind = 3
 ·rw [if_pos cc6] at H
  refine cT rfl (eqT cc6) <| sr <| u rfl (x_fa tf29_1 rfl) <| u rfl (x_ld tsc3 rfl (S.load 0 rfl 1 rfl)) <| u rfl (x_bin rfl rfl rfl) <| mv (.bool (decide (x0.Num ≥ 1))) rfl ?_
  by_cases cc7 : x0.Num ≥ 1
  ·rw [if_pos cc7] at H
   refine gu rfl rfl rfl (deT cc7) (x_fa tf29_1 rfl) <| gu rfl rfl rfl (deT cc7) (x_ld tsc3 rfl (S.load 0 rfl 1 rfl)) <| gu rfl rfl rfl (deT cc7) (x_bin rfl rfl rfl) <| u rfl (x_pickTV (v := .bool (decide (x0.Num ≤ 8))) rfl (deT cc7) rfl) <| mv (.bool (decide (x0.Num ≤ 8))) rfl <| rt ?_
   obtain rfl := si H
   exact ⟨_, ⟨_, rfl, rfl⟩, ⟨rfl, ((S.sel 1 [] rfl).weaken hI)⟩⟩
  rw [if_neg cc7] at H
  refine gn rfl rfl rfl (deF cc7) <| gn rfl rfl rfl (deF cc7) <| gn rfl rfl rfl (deF cc7) <| u rfl (x_pickFV (v := .bool false) rfl (deF cc7) rfl) <| mv (.bool false) rfl <| rt ?_
  obtain rfl := si H
  exact ⟨_, ⟨_, rfl, rfl⟩, ⟨rfl, ((S.sel 1 [] rfl).weaken hI)⟩⟩
 rw [if_neg cc6] at H
 refine cF rfl (eqF cc6) <| sq <| sr <| u rfl (x_bin rfl rfl rfl) <| mv (.bool (x0.Kind == 4)) rfl ?_
 by_cases cc8 : x0.Kind = 4
 ·rw [if_pos cc8] at H
  refine cT rfl (eqT cc8) <| sk <| cT rfl (eqT cc8) <| sr <| mv (.bool true) rfl <| rt ?_
  obtain rfl := si H
  exact ⟨_, ⟨_, rfl, rfl⟩, ⟨rfl, ((S.sel 1 [] rfl).weaken hI)⟩⟩
 rw [if_neg cc8] at H
 refine cF rfl (eqF cc8) <| sr <| u rfl (x_bin rfl rfl rfl) <| mv (.bool (x0.Kind == 5)) rfl ?_
 by_cases cc9 : x0.Kind = 5
 ·rw [if_pos cc9] at H
  refine cT rfl (eqT cc9) <| sk <| cT rfl (eqT cc9) <| sr <| mv (.bool true) rfl <| rt ?_
  obtain rfl := si H
  exact ⟨_, ⟨_, rfl, rfl⟩, ⟨rfl, ((S.sel 1 [] rfl).weaken hI)⟩⟩
 rw [if_neg cc9] at H
 refine cF rfl (eqF cc9) <| rg <| u rfl (x_bin rfl rfl rfl) <| mv (.bool (x0.Kind == 7)) rfl ?_
 by_cases cc10 : x0.Kind = 7
 ·rw [if_pos cc10] at H
  refine cT rfl (eqT cc10) <| sq <| FW.anew [] trivial fun σ => rg <| mv (.bool true) rfl <| rt ?_
  obtain rfl := si H
  exact ⟨_, ⟨_, rfl, rfl⟩, ⟨rfl, ((S.sel 1 [] rfl).weaken hI)⟩⟩
 rw [if_neg cc10] at H
 refine cF rfl (eqF cc10) <| sq <| FW.anew [(1, pt b1), (4, .int .i64 x0.Kind)] ⟨rfl, rfl, trivial⟩ fun σ => rg <| u rfl (x_bin rfl rfl rfl) <| mv (.bool (x0.Kind == 6)) rfl ?_
 by_cases cc11 : x0.Kind = 6
 ·rw [if_pos cc11] at H
  refine cT rfl (eqT cc11) <| sr <| u rfl (x_fa tf29_2 rfl) <| u rfl (x_ld tsc23 rfl (S.load 0 rfl 2 rfl)) ?_
  obtain ⟨y12, hy13, H⟩ := obx H
  refine g rfl (cl fb46 (@attrs_Next.ok k x0.Addr _ _ _ _ hG S hy13) rfl ?_)
  rintro _ w ⟨rfl, S⟩
  refine mv (.bool y12) rfl <| rt ?_
  obtain rfl := si H
  exact ⟨_, ⟨_, rfl, rfl⟩, ⟨rfl, ((S.sel 1 [] rfl).weaken hI)⟩⟩
 rw [if_neg cc11] at H
 refine cF rfl (eqF cc11) <| sk <| sr <| mv (.bool false) rfl <| rt ?_
 obtain rfl := si H
 exact ⟨_, ⟨_, rfl, rfl⟩, ⟨rfl, ((S.sel 1 [] rfl).weaken hI)⟩⟩
def policy_rule_2.f (k : Nat) (x0 : T_api_Deed) : Option Bool := ((policy_RightDeed.f k x0).bind fun y2 => (some (!y2)))
abbrev policy_rule_2.C (k : Nat) : Prop := ∀ {x0 : T_api_Deed} {F : List It} {I : IMem} {w : World} {r : Bool}, Glob I → Own I w (F) → policy_rule_2.f k x0 = some r →
    Calls Tryz.prog 76 #[.agg #[.int .i64 x0.Kind, .int .i64 x0.Num, .int .u32 x0.Addr]] w fun e w' => ∃ v, e = .returned v ∧ v = .bool r ∧ Own I w' (F)
theorem policy_rule_2.ok (k : Nat) : policy_rule_2.C k := by
 intro x0 F I w r hG S H
 have hI := ilr I
 rw [policy_rule_2.f] at H
 refine Calls.ofFW (args := [.agg #[.int .i64 x0.Kind, .int .i64 x0.Num, .int .u32 x0.Addr]]) Tryz.func76 rfl rfl <| sr <| g rfl (o_boxA rfl S fun b1 w S => mv (.bool false) rfl (sq (rg (u rfl (x_ldA tag29 rfl (S.loadW 0 rfl) rfl) ?_))))
 obtain ⟨y2, hy3, H⟩ := obx H
 refine g rfl (cl fb16 (@policy_RightDeed.ok k x0 _ _ _ _ hG S hy3) rfl ?_)
 rintro _ w ⟨rfl, S⟩
 refine u rfl (x_not' rfl) <| mv (.bool (!y2)) rfl <| rt ?_
 obtain rfl := si H
 exact ⟨_, ⟨_, rfl, rfl⟩, ⟨rfl, ((S.sel 1 [] rfl).weaken hI)⟩⟩
def sI_110_w276.l0 : Nat → (List T_api_Deed) → Int → Option (Sum Int Unit)
  | 0, _, _ => none
  | k + 1, x0, n2 => (if n2 < (x0.length : Int) then ((lat x0 n2).bind fun y11 => ((policy_rule_2.f k y11).bind fun y18 => (if y18 = true then (some (.inl n2)) else (sI_110_w276.l0 k x0 (i64 (n2 + 1)))))) else (some (.inr ())))
def sI_110_w276.f (k : Nat) (x0 : (List T_api_Deed)) : Option Int := (((sI_110_w276.l0 k x0 0) : Option (Sum Int Unit)).bind fun o => match o with | .inl r => some r | .inr _ => (some (-1)))
abbrev sI_110_w276.C (k : Nat) : Prop := ∀ {x0 : (List T_api_Deed)} {vx0 : Value} {F : List It} {I : IMem} {w : World} {r : Int}, Glob I → Own I w (F) → SlR R_api_Deed I vx0 x0 → sI_110_w276.f k x0 = some r →
    Calls Tryz.prog 110 #[vx0, .func (.func 76) #[] #[]] w fun e w' => ∃ v, e = .returned v ∧ v = .int .i64 r ∧ Own I w' (F)
theorem sI_110_w276.ok (k : Nat) : sI_110_w276.C k := by
 intro x0 vx0 F I w r hG S hx0 H
 have hI := ilr I
 rw [sI_110_w276.f] at H
 refine Calls.ofFW (args := [vx0, .func (.func 76) #[] #[]]) Tryz.func110 rfl rfl <| sr <| mv (.int .i64 0) rfl <| sq <| sr <| mv vx0 rfl <| u rfl (x_lenD (r := R_api_Deed) tsl49 hx0) <| mv (.int .i64 0) rfl <| bk ?_
 obtain ⟨o5, hl7, HO6⟩ := obx H
 refine FW.cutX 0 (fun σ w => ∃ (J8 : IMem), (.inr ()) = o5 ∧ Has σ [] ∧ I.le J8 ∧ Own J8 w (F)) ?_ ?_
 ·refine FW.loop k (FL.ind (fun q σ w => ∃ (n2 : Int) (J1 : IMem), sI_110_w276.l0 q x0 n2 = some o5 ∧ q ≤ k ∧ Has σ [(0, vx0), (1, .func (.func 76) #[] #[]), (7, .int .i64 (x0.length : Int)), (8, .int .i64 n2)] ∧ I.le J1 ∧ Own J1 w (F)) ?_ ?_ k k _ _ (Nat.le_refl _) ⟨0, I, hl7, Nat.le_refl _, ⟨rfl, rfl, rfl, rfl, trivial⟩, (ilr _), S⟩)
  ·rintro σ w ⟨n2, J1, H, _⟩; cases H
  rintro q3 σ w ⟨n2, J1, H, hq9, hσ, hL4, S⟩
  have hx0 := hx0.mono hL4
  have hI := hI.trans hL4
  have hG := hG.mono hL4
  rw [hσ.eq]
  rw [sI_110_w276.l0] at H
  refine sr <| u rfl (x_bin rfl rfl rfl) <| sq ?_
  by_cases cc10 : n2 < (x0.length : Int)
  ·rw [if_pos cc10] at H
   refine cT rfl (deT cc10) <| sk <| sq <| bk <| sr <| mv (.int .i64 n2) rfl <| mv (.int .i64 n2) rfl <| sr <| mv (.func (.func 76) #[] #[]) rfl <| mv vx0 rfl <| mv (.int .i64 n2) rfl ?_
   obtain ⟨y11, h12, H⟩ := obx H
   refine g rfl (o_ia (r := R_api_Deed) tsl49 rfl rfl hx0 rfl h12 fun b13 o14 cs15 hr16 hc17 => ?_)
   obtain rfl := hr16
   refine u rfl (x_ldA tag29 rfl (S.loadI hc17) rfl) ?_
   obtain ⟨y18, hy19, H⟩ := obx H
   refine g rfl (clv rfl fb76 (@policy_rule_2.ok q3 y11 _ _ _ _ hG S hy19) rfl ?_)
   rintro _ w ⟨rfl, S⟩
   by_cases cc20 : y18 = true
   ·rw [if_pos cc20] at H
    refine cT rfl cc20 <| sq <| FW.anew [(5, .int .i64 n2)] ⟨rfl, trivial⟩ fun σ => rg <| mv (.int .i64 n2) rfl <| mv (.int .i64 n2) rfl <| rt ?_
    obtain rfl := si H
    obtain rfl := si HO6
    exact ⟨_, ⟨_, rfl, rfl⟩, ⟨rfl, (S.weaken hI)⟩⟩
   rw [if_neg cc20] at H
   refine cF rfl (vaF cc20) <| sk <| FW.anew [(0, vx0), (1, .func (.func 76) #[] #[]), (7, .int .i64 (x0.length : Int)), (8, .int .i64 n2)] ⟨rfl, rfl, rfl, rfl, trivial⟩ fun σ => rg <| u rfl (x_bin rfl rfl rfl) <| mv (.int .i64 (i64 (n2 + 1))) rfl ⟨q3, Nat.le_refl _, (i64 (n2 + 1)), J1, H, (Nat.le_of_succ_le hq9), ⟨rfl, rfl, rfl, rfl, trivial⟩, hL4, S⟩
  rw [if_neg cc10] at H
  refine cF rfl (deF cc10) <| ex ⟨J1, (si H), trivial, hL4, S⟩
 rintro σ w ⟨J8, ho, hσ, hL4, S⟩
 subst ho
 have H := HO6
 try dsimp only at H
 have hI := hI.trans hL4
 rw [hσ.eq]
 refine sr <| mv (.int .i64 (-1)) rfl <| rt ?_
 obtain rfl := si H
 exact ⟨_, ⟨_, rfl, rfl⟩, ⟨rfl, (S.weaken hI)⟩⟩
def sC_78_w276.f (k : Nat) (x0 : (List T_api_Deed)) : Option Bool := ((sI_110_w276.f k x0).bind fun y1 => (some (decide (y1 ≥ 0))))
abbrev sC_78_w276.C (k : Nat) : Prop := ∀ {x0 : (List T_api_Deed)} {vx0 : Value} {F : List It} {I : IMem} {w : World} {r : Bool}, Glob I → Own I w (F) → SlR R_api_Deed I vx0 x0 → sC_78_w276.f k x0 = some r →
    Calls Tryz.prog 78 #[vx0, .func (.func 76) #[] #[]] w fun e w' => ∃ v, e = .returned v ∧ v = .bool r ∧ Own I w' (F)
theorem sC_78_w276.ok (k : Nat) : sC_78_w276.C k := by
 intro x0 vx0 F I w r hG S hx0 H
 have hI := ilr I
 rw [sC_78_w276.f] at H
 refine Calls.ofFW (args := [vx0, .func (.func 76) #[] #[]]) Tryz.func78 rfl rfl <| sr <| mv (.bool false) rfl <| sr <| mv vx0 rfl <| mv (.func (.func 76) #[] #[]) rfl ?_
 obtain ⟨y1, hy2, H⟩ := obx H
 refine g rfl (cl fb110 (@sI_110_w276.ok k x0 _ _ _ _ _ hG S hx0 hy2) rfl ?_)
 rintro _ w ⟨rfl, S⟩
 refine u rfl (x_bin rfl rfl rfl) <| mv (.bool (decide (y1 ≥ 0))) rfl <| rt ?_
 obtain rfl := si H
 exact ⟨_, ⟨_, rfl, rfl⟩, ⟨rfl, (S.weaken hI)⟩⟩
def policy_rule.f (k : Nat) (x0 : T_api_Rule) : Option Bool := (if (x0.Conds.length : Int) > 16 then (some false) else (if (x0.Deeds.length : Int) > 16 then (some false) else ((sC_77_w175.f k x0.Conds).bind fun y4 => (if y4 = true then (some false) else ((sC_78_w276.f k x0.Deeds).bind fun y7 => (if y7 = true then (some false) else (if x0.Verdict = 1 then (some true) else (if x0.Verdict = 2 then (some true) else (some (x0.Verdict == 3))))))))))
abbrev policy_rule.C (k : Nat) : Prop := ∀ {x0 : T_api_Rule} {x0v0 : Value} {x0v1 : Value} {F : List It} {I : IMem} {w : World} {r : Bool}, Glob I → Own I w (F) → SlR R_api_Cond I x0v0 x0.Conds → SlR R_api_Deed I x0v1 x0.Deeds → policy_rule.f k x0 = some r →
    Calls Tryz.prog 39 #[.agg #[x0v0, x0v1, .int .i64 x0.Verdict]] w fun e w' => ∃ v, e = .returned v ∧ v = .bool r ∧ Own I w' (F)
theorem policy_rule.ok (k : Nat) : policy_rule.C k := by
 intro x0 x0v0 x0v1 F I w r hG S x0h0 x0h1 H
 have hI := ilr I
 rw [policy_rule.f] at H
 refine Calls.ofFW (args := [.agg #[x0v0, x0v1, .int .i64 x0.Verdict]]) Tryz.func39 rfl rfl <| sr <| g rfl (o_boxA rfl S fun b1 w S => mv (.bool false) rfl (sq (sq (rg (u rfl (x_fa tf51_0 rfl) (u rfl (x_ld tsc48 rfl (S.load 0 rfl 0 rfl)) (u rfl (x_lenD (r := R_api_Cond) tsl48 x0h0) (u rfl (x_bin rfl rfl rfl) (mv (.bool (decide ((x0.Conds.length : Int) > 16))) rfl ?_)))))))))
 by_cases cc2 : (x0.Conds.length : Int) > 16
 ·rw [if_pos cc2] at H
  refine gn rfl rfl rfl (deT cc2) <| gn rfl rfl rfl (deT cc2) <| gn rfl rfl rfl (deT cc2) <| gn rfl rfl rfl (deT cc2) <| u rfl (x_pickTV (v := .bool true) rfl (deT cc2) rfl) <| cT rfl rfl <| sq <| FW.anew [] trivial fun σ => rg <| mv (.bool false) rfl <| rt ?_
  obtain rfl := si H
  exact ⟨_, ⟨_, rfl, rfl⟩, ⟨rfl, ((S.sel 1 [] rfl).weaken hI)⟩⟩
 rw [if_neg cc2] at H
 refine gu rfl rfl rfl (deF cc2) (x_fa tf51_1 rfl) <| gu rfl rfl rfl (deF cc2) (x_ld tsc49 rfl (S.load 0 rfl 1 rfl)) <| gu rfl rfl rfl (deF cc2) (x_lenD (r := R_api_Deed) tsl49 x0h1) <| gu rfl rfl rfl (deF cc2) (x_bin rfl rfl rfl) <| u rfl (x_pickFV (v := .bool (decide ((x0.Deeds.length : Int) > 16))) rfl (deF cc2) rfl) ?_
 by_cases cc3 : (x0.Deeds.length : Int) > 16
 ·rw [if_pos cc3] at H
  refine cT rfl (deT cc3) <| sq <| FW.anew [] trivial fun σ => rg <| mv (.bool false) rfl <| rt ?_
  obtain rfl := si H
  exact ⟨_, ⟨_, rfl, rfl⟩, ⟨rfl, ((S.sel 1 [] rfl).weaken hI)⟩⟩
 rw [if_neg cc3] at H
 refine cF rfl (deF cc3) <| sk <| sq <| FW.anew [(1, pt b1)] ⟨rfl, trivial⟩ fun σ => rg <| mv (.func (.func 75) #[] #[]) rfl <| sr <| mv (.func (.func 76) #[] #[]) rfl <| sq <| sr <| u rfl (x_fa tf51_0 rfl) <| u rfl (x_ld tsc48 rfl (S.load 0 rfl 0 rfl)) <| mv (.func (.func 75) #[] #[]) rfl ?_
 obtain ⟨y4, hy5, H⟩ := obx H
 refine g rfl (cl fb77 (@sC_77_w175.ok k x0.Conds _ _ _ _ _ hG S x0h0 hy5) rfl ?_)
 rintro _ w ⟨rfl, S⟩
 refine mv (.bool y4) rfl ?_
 by_cases cc6 : y4 = true
 ·rw [if_pos cc6] at H
  refine gn rfl rfl rfl cc6 <| gn rfl rfl rfl cc6 <| gn rfl rfl rfl cc6 <| gn rfl rfl rfl cc6 <| u rfl (x_pickTV (v := .bool true) rfl cc6 rfl) <| cT rfl rfl <| sq <| FW.anew [] trivial fun σ => rg <| mv (.bool false) rfl <| rt ?_
  obtain rfl := si H
  exact ⟨_, ⟨_, rfl, rfl⟩, ⟨rfl, ((S.sel 1 [] rfl).weaken hI)⟩⟩
 rw [if_neg cc6] at H
 refine gu rfl rfl rfl (vaF cc6) (x_fa tf51_1 rfl) <| gu rfl rfl rfl (vaF cc6) (x_ld tsc49 rfl (S.load 0 rfl 1 rfl)) <| gu rfl rfl rfl (vaF cc6) (x_movV (v := .func (.func 76) #[] #[]) rfl) ?_
 obtain ⟨y7, hy8, H⟩ := obx H
 refine OK.gt rfl rfl rfl (vaF cc6) (cl fb78 (@sC_78_w276.ok k x0.Deeds _ _ _ _ _ hG S x0h1 hy8) rfl ?_)
 rintro _ w ⟨rfl, S⟩
 refine u rfl (x_pickFV (v := .bool y7) rfl (vaF cc6) rfl) ?_
 by_cases cc9 : y7 = true
 ·rw [if_pos cc9] at H
  refine cT rfl cc9 <| sq <| FW.anew [] trivial fun σ => rg <| mv (.bool false) rfl <| rt ?_
  obtain rfl := si H
  exact ⟨_, ⟨_, rfl, rfl⟩, ⟨rfl, ((S.sel 1 [] rfl).weaken hI)⟩⟩
 rw [if_neg cc9] at H
 refine cF rfl (vaF cc9) <| sk <| sq <| FW.anew [(1, pt b1)] ⟨rfl, trivial⟩ fun σ => rg <| u rfl (x_fa tf51_2 rfl) <| u rfl (x_ld tsc3 rfl (S.load 0 rfl 2 rfl)) <| u rfl (x_bin rfl rfl rfl) <| mv (.bool (x0.Verdict == 1)) rfl ?_
 by_cases cc10 : x0.Verdict = 1
 ·rw [if_pos cc10] at H
  refine gn rfl rfl rfl (eqT cc10) <| gn rfl rfl rfl (eqT cc10) <| gn rfl rfl rfl (eqT cc10) <| u rfl (x_pickTV (v := .bool true) rfl (eqT cc10) rfl) <| mv (.bool true) rfl <| gn rfl rfl rfl rfl <| gn rfl rfl rfl rfl <| gn rfl rfl rfl rfl <| u rfl (x_pickTV (v := .bool true) rfl rfl rfl) <| mv (.bool true) rfl <| rt ?_
  obtain rfl := si H
  exact ⟨_, ⟨_, rfl, rfl⟩, ⟨rfl, ((S.sel 1 [] rfl).weaken hI)⟩⟩
 rw [if_neg cc10] at H
 refine gu rfl rfl rfl (eqF cc10) (x_fa tf51_2 rfl) <| gu rfl rfl rfl (eqF cc10) (x_ld tsc3 rfl (S.load 0 rfl 2 rfl)) <| gu rfl rfl rfl (eqF cc10) (x_bin rfl rfl rfl) <| u rfl (x_pickFV (v := .bool (x0.Verdict == 2)) rfl (eqF cc10) rfl) <| mv (.bool (x0.Verdict == 2)) rfl ?_
 by_cases cc11 : x0.Verdict = 2
 ·rw [if_pos cc11] at H
  refine gn rfl rfl rfl (eqT cc11) <| gn rfl rfl rfl (eqT cc11) <| gn rfl rfl rfl (eqT cc11) <| u rfl (x_pickTV (v := .bool true) rfl (eqT cc11) rfl) <| mv (.bool true) rfl <| rt ?_
  obtain rfl := si H
  exact ⟨_, ⟨_, rfl, rfl⟩, ⟨rfl, ((S.sel 1 [] rfl).weaken hI)⟩⟩
 rw [if_neg cc11] at H
 refine gu rfl rfl rfl (eqF cc11) (x_fa tf51_2 rfl) <| gu rfl rfl rfl (eqF cc11) (x_ld tsc3 rfl (S.load 0 rfl 2 rfl)) <| gu rfl rfl rfl (eqF cc11) (x_bin rfl rfl rfl) <| u rfl (x_pickFV (v := .bool (x0.Verdict == 3)) rfl (eqF cc11) rfl) <| mv (.bool (x0.Verdict == 3)) rfl <| rt ?_
 obtain rfl := si H
 exact ⟨_, ⟨_, rfl, rfl⟩, ⟨rfl, ((S.sel 1 [] rfl).weaken hI)⟩⟩
def policy_Right_1.f (k : Nat) (x0 : T_api_Rule) : Option Bool := ((policy_rule.f k x0).bind fun y2 => (some (!y2)))
abbrev policy_Right_1.C (k : Nat) : Prop := ∀ {x0 : T_api_Rule} {x0v0 : Value} {x0v1 : Value} {F : List It} {I : IMem} {w : World} {r : Bool}, Glob I → Own I w (F) → SlR R_api_Cond I x0v0 x0.Conds → SlR R_api_Deed I x0v1 x0.Deeds → policy_Right_1.f k x0 = some r →
    Calls Tryz.prog 38 #[.agg #[x0v0, x0v1, .int .i64 x0.Verdict]] w fun e w' => ∃ v, e = .returned v ∧ v = .bool r ∧ Own I w' (F)
theorem policy_Right_1.ok (k : Nat) : policy_Right_1.C k := by
 intro x0 x0v0 x0v1 F I w r hG S x0h0 x0h1 H
 have hI := ilr I
 rw [policy_Right_1.f] at H
 refine Calls.ofFW (args := [.agg #[x0v0, x0v1, .int .i64 x0.Verdict]]) Tryz.func38 rfl rfl <| sr <| g rfl (o_boxA rfl S fun b1 w S => mv (.bool false) rfl (sq (rg (u rfl (x_ldA tag51 rfl (S.loadW 0 rfl) rfl) ?_))))
 obtain ⟨y2, hy3, H⟩ := obx H
 refine g rfl (cl fb39 (@policy_rule.ok k x0 _ _ _ _ _ _ hG S x0h0 x0h1 hy3) rfl ?_)
 rintro _ w ⟨rfl, S⟩
 refine u rfl (x_not' rfl) <| mv (.bool (!y2)) rfl <| rt ?_
 obtain rfl := si H
 exact ⟨_, ⟨_, rfl, rfl⟩, ⟨rfl, ((S.sel 1 [] rfl).weaken hI)⟩⟩
end Go.Proofs.YtafnenafbognkaaGreatDoor
