/-
  Parts of the proof, merged: F5, F6, F7.
-/
import Derived.Test.YtafnenafbognkaaGreatDoorW9
namespace Go.Proofs.YtafnenafbognkaaGreatDoor
open Sp
set_option maxRecDepth 100000
set_option maxHeartbeats 4000000
def sI_74_w138.l0 : Nat → (List T_api_Rule) → Int → Option (Sum Int Unit)
  | 0, _, _ => none
  | k + 1, x0, n2 => (if n2 < (x0.length : Int) then ((lat x0 n2).bind fun y11 => ((policy_Right_1.f k y11).bind fun y18 => (if y18 = true then (some (.inl n2)) else (sI_74_w138.l0 k x0 (i64 (n2 + 1)))))) else (some (.inr ())))
def sI_74_w138.f (k : Nat) (x0 : (List T_api_Rule)) : Option Int := (((sI_74_w138.l0 k x0 0) : Option (Sum Int Unit)).bind fun o => match o with | .inl r => some r | .inr _ => (some (-1)))
abbrev sI_74_w138.C (k : Nat) : Prop := ∀ {x0 : (List T_api_Rule)} {vx0 : Value} {F : List It} {I : IMem} {w : World} {r : Int}, Glob I → Own I w (F) → SlR R_api_Rule I vx0 x0 → sI_74_w138.f k x0 = some r →
    Calls Tryz.prog 74 #[vx0, .func (.func 38) #[] #[]] w fun e w' => ∃ v, e = .returned v ∧ v = .int .i64 r ∧ Own I w' (F)
theorem sI_74_w138.ok (k : Nat) : sI_74_w138.C k := by
 intro x0 vx0 F I w r hG S hx0 H
 have hI := ilr I
 rw [sI_74_w138.f] at H
 refine Calls.ofFW (args := [vx0, .func (.func 38) #[] #[]]) Tryz.func74 rfl rfl <| sr <| mv (.int .i64 0) rfl <| sq <| sr <| mv vx0 rfl <| u rfl (x_lenD (r := R_api_Rule) tsl22 hx0) <| mv (.int .i64 0) rfl <| bk ?_
 obtain ⟨o5, hl7, HO6⟩ := obx H
 refine FW.cutX 0 (fun σ w => ∃ (J8 : IMem), (.inr ()) = o5 ∧ Has σ [] ∧ I.le J8 ∧ Own J8 w (F)) ?_ ?_
 ·refine FW.loop k (FL.ind (fun q σ w => ∃ (n2 : Int) (J1 : IMem), sI_74_w138.l0 q x0 n2 = some o5 ∧ q ≤ k ∧ Has σ [(0, vx0), (1, .func (.func 38) #[] #[]), (7, .int .i64 (x0.length : Int)), (8, .int .i64 n2)] ∧ I.le J1 ∧ Own J1 w (F)) ?_ ?_ k k _ _ (Nat.le_refl _) ⟨0, I, hl7, Nat.le_refl _, ⟨rfl, rfl, rfl, rfl, trivial⟩, (ilr _), S⟩)
  ·rintro σ w ⟨n2, J1, H, _⟩; cases H
  rintro q3 σ w ⟨n2, J1, H, hq9, hσ, hL4, S⟩
  have hx0 := hx0.mono hL4
  have hI := hI.trans hL4
  have hG := hG.mono hL4
  rw [hσ.eq]
  rw [sI_74_w138.l0] at H
  refine sr <| u rfl (x_bin rfl rfl rfl) <| sq ?_
  by_cases cc10 : n2 < (x0.length : Int)
  ·rw [if_pos cc10] at H
   refine cT rfl (deT cc10) <| sk <| sq <| bk <| sr <| mv (.int .i64 n2) rfl <| mv (.int .i64 n2) rfl <| sr <| mv (.func (.func 38) #[] #[]) rfl <| mv vx0 rfl <| mv (.int .i64 n2) rfl ?_
   obtain ⟨y11, h12, H⟩ := obx H
   refine g rfl (o_ia (r := R_api_Rule) tsl22 rfl rfl hx0 rfl h12 fun b13 o14 cs15 hr16 hc17 => ?_)
   obtain ⟨y11v0, y11v1, rfl, y11h0, y11h1⟩ := hr16
   refine u rfl (x_ldA tag51 rfl (S.loadI hc17) rfl) ?_
   obtain ⟨y18, hy19, H⟩ := obx H
   refine g rfl (clv rfl fb38 (@policy_Right_1.ok q3 y11 _ _ _ _ _ _ hG S y11h0 y11h1 hy19) rfl ?_)
   rintro _ w ⟨rfl, S⟩
   by_cases cc20 : y18 = true
   ·rw [if_pos cc20] at H
    refine cT rfl cc20 <| sq <| FW.anew [(5, .int .i64 n2)] ⟨rfl, trivial⟩ fun σ => rg <| mv (.int .i64 n2) rfl <| mv (.int .i64 n2) rfl <| rt ?_
    obtain rfl := si H
    obtain rfl := si HO6
    exact ⟨_, ⟨_, rfl, rfl⟩, ⟨rfl, (S.weaken hI)⟩⟩
   rw [if_neg cc20] at H
   refine cF rfl (vaF cc20) <| sk <| FW.anew [(0, vx0), (1, .func (.func 38) #[] #[]), (7, .int .i64 (x0.length : Int)), (8, .int .i64 n2)] ⟨rfl, rfl, rfl, rfl, trivial⟩ fun σ => rg <| u rfl (x_bin rfl rfl rfl) <| mv (.int .i64 (i64 (n2 + 1))) rfl ⟨q3, Nat.le_refl _, (i64 (n2 + 1)), J1, H, (Nat.le_of_succ_le hq9), ⟨rfl, rfl, rfl, rfl, trivial⟩, hL4, S⟩
  rw [if_neg cc10] at H
  refine cF rfl (deF cc10) <| ex ⟨J1, (si H), trivial, hL4, S⟩
 rintro σ w ⟨J8, ho, hσ, hL4, S⟩
 subst ho
 have H := HO6
 try dsimp only at H
 have hI := hI.trans hL4
 rw [hσ.eq]
 refine sr <| mv (.int .i64 (-1)) rfl <| rt ?_
 obtain rfl := si H
 exact ⟨_, ⟨_, rfl, rfl⟩, ⟨rfl, (S.weaken hI)⟩⟩
def sC_37_w138.f (k : Nat) (x0 : (List T_api_Rule)) : Option Bool := ((sI_74_w138.f k x0).bind fun y1 => (some (decide (y1 ≥ 0))))
abbrev sC_37_w138.C (k : Nat) : Prop := ∀ {x0 : (List T_api_Rule)} {vx0 : Value} {F : List It} {I : IMem} {w : World} {r : Bool}, Glob I → Own I w (F) → SlR R_api_Rule I vx0 x0 → sC_37_w138.f k x0 = some r →
    Calls Tryz.prog 37 #[vx0, .func (.func 38) #[] #[]] w fun e w' => ∃ v, e = .returned v ∧ v = .bool r ∧ Own I w' (F)
theorem sC_37_w138.ok (k : Nat) : sC_37_w138.C k := by
 intro x0 vx0 F I w r hG S hx0 H
 have hI := ilr I
 rw [sC_37_w138.f] at H
 refine Calls.ofFW (args := [vx0, .func (.func 38) #[] #[]]) Tryz.func37 rfl rfl <| sr <| mv (.bool false) rfl <| sr <| mv vx0 rfl <| mv (.func (.func 38) #[] #[]) rfl ?_
 obtain ⟨y1, hy2, H⟩ := obx H
 refine g rfl (cl fb74 (@sI_74_w138.ok k x0 _ _ _ _ _ hG S hx0 hy2) rfl ?_)
 rintro _ w ⟨rfl, S⟩
 refine u rfl (x_bin rfl rfl rfl) <| mv (.bool (decide (y1 ≥ 0))) rfl <| rt ?_
 obtain rfl := si H
 exact ⟨_, ⟨_, rfl, rfl⟩, ⟨rfl, (S.weaken hI)⟩⟩
def policy_Right.f (k : Nat) (x0 : (List T_api_Rule)) : Option Bool := (if (x0.length : Int) > 16 then (some false) else ((sC_37_w138.f k x0).bind fun y2 => (some (!y2))))
abbrev policy_Right.C (k : Nat) : Prop := ∀ {x0 : (List T_api_Rule)} {vx0 : Value} {F : List It} {I : IMem} {w : World} {r : Bool}, Glob I → Own I w (F) → SlR R_api_Rule I vx0 x0 → policy_Right.f k x0 = some r →
    Calls Tryz.prog 12 #[vx0] w fun e w' => ∃ v, e = .returned v ∧ v = .bool r ∧ Own I w' (F)
theorem policy_Right.ok (k : Nat) : policy_Right.C k := by
 intro x0 vx0 F I w r hG S hx0 H
 have hI := ilr I
 rw [policy_Right.f] at H
 refine Calls.ofFW (args := [vx0]) Tryz.func12 rfl rfl <| sr <| mv (.bool false) rfl <| sq <| sr <| mv vx0 rfl <| u rfl (x_lenD (r := R_api_Rule) tsl22 hx0) <| u rfl (x_bin rfl rfl rfl) ?_
 by_cases cc1 : (x0.length : Int) > 16
 ·rw [if_pos cc1] at H
  refine cT rfl (deT cc1) <| sr <| mv (.bool false) rfl <| rt ?_
  obtain rfl := si H
  exact ⟨_, ⟨_, rfl, rfl⟩, ⟨rfl, (S.weaken hI)⟩⟩
 rw [if_neg cc1] at H
 refine cF rfl (deF cc1) <| sk <| sr <| mv vx0 rfl ?_
 obtain ⟨y2, hy3, H⟩ := obx H
 refine g rfl (cl fb37 (@sC_37_w138.ok k x0 _ _ _ _ _ hG S hx0 hy3) rfl ?_)
 rintro _ w ⟨rfl, S⟩
 refine u rfl (x_not' rfl) <| mv (.bool (!y2)) rfl <| rt ?_
 obtain rfl := si H
 exact ⟨_, ⟨_, rfl, rfl⟩, ⟨rfl, (S.weaken hI)⟩⟩
def prefix_Holds.f (k : Nat) (x0 : T_api_Prefix) (x1 : Int) : Option Bool := ((prefix_Right.f k x0).bind fun y3 => (if y3 = true then ((prefix_Mask.f k x0.Len).bind fun y6 => (some ((band .u32 (bxor .u32 x0.Addr x1) y6) == 0))) else (some false)))
abbrev prefix_Holds.C (k : Nat) : Prop := ∀ {x0 : T_api_Prefix} {x1 : Int} {F : List It} {I : IMem} {w : World} {r : Bool}, Glob I → Own I w (F) → prefix_Holds.f k x0 x1 = some r →
    Calls Tryz.prog 145 #[.agg #[.int .u32 x0.Addr, .int .i64 x0.Len], .int .u32 x1] w fun e w' => ∃ v, e = .returned v ∧ v = .bool r ∧ Own I w' (F)
theorem prefix_Holds.ok (k : Nat) : prefix_Holds.C k := by
 intro x0 x1 F I w r hG S H
 have hI := ilr I
 rw [prefix_Holds.f] at H
 refine Calls.ofFW (args := [.agg #[.int .u32 x0.Addr, .int .i64 x0.Len], .int .u32 x1]) Tryz.func145 rfl rfl <| sr <| g rfl (o_boxA rfl S fun b1 w S => mv (.bool false) rfl (sq ?_))
 have S := S.drew
 refine FW.regionD mixed ?_
 have hO := Hold.nil (w := { w with drawn := w.drawn + 1 })
 have hR2 := ilr I
 refine ak (Stab I [.bk b1 36 [.int .u32 x0.Addr, .int .i64 x0.Len]]) 0 rfl (by kernel_rfl) hO (Stab.of S 0 rfl hR2) (fun w hS => x_ldA tag36 rfl (hS.loadW 0 rfl) rfl) fun hO => AQ.one 1 [0] [false] (by kernel_rfl) rfl (by kernel_rfl) ?_
 obtain ⟨y3, hy4, H⟩ := obx H
 refine g rfl (cl fb79 (@prefix_Right.ok k x0 _ _ _ _ hG S hy4) rfl ?_)
 rintro _ w ⟨rfl, S⟩
 refine andI Hold.nil fun hO => am 2 (.bool y3) rfl (by kernel_rfl) hO ?_
 by_cases cc5 : y3 = true
 ·rw [if_pos cc5] at H
  refine AQ.pure 3 rfl (by kernel_rfl) (by kernel_rfl) (by kernel_rfl) (gT rfl rfl cc5) hO (fun w => x_fa tf36_0 rfl) <| AQ.take (S := Stab I [.bk b1 36 [.int .u32 x0.Addr, .int .i64 x0.Len]]) 4 rfl (by kernel_rfl) (by kernel_rfl) (by kernel_rfl) (gT rfl rfl cc5) hO (Stab.of S 0 rfl hR2) (fun w hS => x_ld tsc23 rfl (hS.load 0 rfl 0 rfl)) fun hO => AQ.pure 5 rfl (by kernel_rfl) (by kernel_rfl) (by kernel_rfl) (gT rfl rfl cc5) hO (fun w => x_movV (v := .int .u32 x1) rfl) <| AQ.pure 6 rfl (by kernel_rfl) (by kernel_rfl) (by kernel_rfl) (gT rfl rfl cc5) hO (fun w => x_bin rfl rfl rfl) <| AQ.pure 7 rfl (by kernel_rfl) (by kernel_rfl) (by kernel_rfl) (gT rfl rfl cc5) hO (fun w => x_fa tf36_1 rfl) <| AQ.take (S := Stab I [.bk b1 36 [.int .u32 x0.Addr, .int .i64 x0.Len]]) 8 rfl (by kernel_rfl) (by kernel_rfl) (by kernel_rfl) (gT rfl rfl cc5) hO (Stab.of S 0 rfl hR2) (fun w hS => x_ld tsc3 rfl (hS.load 0 rfl 1 rfl)) fun hO => AQ.one 9 [8, 4] [false, true] (by kernel_rfl) rfl (by kernel_rfl) ?_
  obtain ⟨y6, hy7, H⟩ := obx H
  refine OK.gt rfl rfl rfl cc5 (cl fb111 (@prefix_Mask.ok k x0.Len _ _ _ _ hG S hy7) rfl ?_)
  rintro _ w ⟨rfl, S⟩
  refine andI (Hold.cons (Stab.of S 0 rfl hR2) Hold.nil) fun hO => AQ.pure 10 rfl (by kernel_rfl) (by kernel_rfl) (by kernel_rfl) (gT rfl rfl cc5) hO (fun w => x_bin rfl rfl rfl) <| AQ.pure 11 rfl (by kernel_rfl) (by kernel_rfl) (by kernel_rfl) (gT rfl rfl cc5) hO (fun w => x_bin rfl rfl rfl) <| ap 12 rfl (by kernel_rfl) hO (fun w => x_pickTV (v := .bool ((band .u32 (bxor .u32 x0.Addr x1) y6) == 0)) rfl cc5 rfl) <| ap 13 rfl (by kernel_rfl) hO (fun w => x_asgV (v := .bool ((band .u32 (bxor .u32 x0.Addr x1) y6) == 0)) rfl) <| AQ.done (by kernel_rfl) <| rt ?_
  obtain rfl := si H
  exact ⟨_, ⟨_, rfl, rfl⟩, ⟨rfl, ((S.sel 1 [] rfl).weaken hI)⟩⟩
 rw [if_neg cc5] at H
 refine AQ.skip 3 rfl (by kernel_rfl) (by kernel_rfl) (by kernel_rfl) rfl rfl (vaF cc5) hO <| AQ.skip 4 rfl (by kernel_rfl) (by kernel_rfl) (by kernel_rfl) rfl rfl (vaF cc5) hO <| AQ.skip 5 rfl (by kernel_rfl) (by kernel_rfl) (by kernel_rfl) rfl rfl (vaF cc5) hO <| AQ.skip 6 rfl (by kernel_rfl) (by kernel_rfl) (by kernel_rfl) rfl rfl (vaF cc5) hO <| AQ.skip 7 rfl (by kernel_rfl) (by kernel_rfl) (by kernel_rfl) rfl rfl (vaF cc5) hO <| AQ.skip 8 rfl (by kernel_rfl) (by kernel_rfl) (by kernel_rfl) rfl rfl (vaF cc5) hO <| AQ.skip 9 rfl (by kernel_rfl) (by kernel_rfl) (by kernel_rfl) rfl rfl (vaF cc5) hO <| AQ.skip 10 rfl (by kernel_rfl) (by kernel_rfl) (by kernel_rfl) rfl rfl (vaF cc5) hO <| AQ.skip 11 rfl (by kernel_rfl) (by kernel_rfl) (by kernel_rfl) rfl rfl (vaF cc5) hO <| ap 12 rfl (by kernel_rfl) hO (fun w => x_pickFV (v := .bool false) rfl (vaF cc5) rfl) <| ap 13 rfl (by kernel_rfl) hO (fun w => x_asgV (v := .bool false) rfl) <| AQ.done (by kernel_rfl) <| rt ?_
 obtain rfl := si H
 exact ⟨_, ⟨_, rfl, rfl⟩, ⟨rfl, ((S.sel 1 [] rfl).weaken hI)⟩⟩
def prefix_Covers.f (k : Nat) (x0 : T_api_Prefix) (x1 : T_api_Prefix) : Option Bool := ((prefix_Right.f k x1).bind fun y3 => (if y3 = true then (if x1.Len ≥ x0.Len then ((prefix_Holds.f k x0 x1.Addr).bind fun y7 => (some y7)) else (some false)) else (some false)))
abbrev prefix_Covers.C (k : Nat) : Prop := ∀ {x0 : T_api_Prefix} {x1 : T_api_Prefix} {F : List It} {I : IMem} {w : World} {r : Bool}, Glob I → Own I w (F) → prefix_Covers.f k x0 x1 = some r →
    Calls Tryz.prog 121 #[.agg #[.int .u32 x0.Addr, .int .i64 x0.Len], .agg #[.int .u32 x1.Addr, .int .i64 x1.Len]] w fun e w' => ∃ v, e = .returned v ∧ v = .bool r ∧ Own I w' (F)
theorem prefix_Covers.ok (k : Nat) : prefix_Covers.C k := by
 intro x0 x1 F I w r hG S H
 have hI := ilr I
 rw [prefix_Covers.f] at H
 refine Calls.ofFW (args := [.agg #[.int .u32 x0.Addr, .int .i64 x0.Len], .agg #[.int .u32 x1.Addr, .int .i64 x1.Len]]) Tryz.func121 rfl rfl <| sr <| g rfl (o_boxA rfl S fun b1 w S => g rfl (o_boxA rfl S fun b2 w S => mv (.bool false) rfl (sq (rg (u rfl (x_ldA tag36 rfl (S.loadW 0 rfl) rfl) ?_)))))
 obtain ⟨y3, hy4, H⟩ := obx H
 refine g rfl (cl fb79 (@prefix_Right.ok k x1 _ _ _ _ hG S hy4) rfl ?_)
 rintro _ w ⟨rfl, S⟩
 refine mv (.bool y3) rfl ?_
 by_cases cc5 : y3 = true
 ·rw [if_pos cc5] at H
  refine gu rfl rfl rfl cc5 (x_fa tf36_1 rfl) <| gu rfl rfl rfl cc5 (x_ld tsc3 rfl (S.load 0 rfl 1 rfl)) <| gu rfl rfl rfl cc5 (x_fa tf36_1 rfl) <| gu rfl rfl rfl cc5 (x_ld tsc3 rfl (S.load 1 rfl 1 rfl)) <| gu rfl rfl rfl cc5 (x_bin rfl rfl rfl) <| u rfl (x_pickTV (v := .bool (decide (x1.Len ≥ x0.Len))) rfl cc5 rfl) <| mv (.bool (decide (x1.Len ≥ x0.Len))) rfl ?_
  by_cases cc6 : x1.Len ≥ x0.Len
  ·rw [if_pos cc6] at H
   refine gu rfl rfl rfl (deT cc6) (x_ldA tag36 rfl (S.loadW 1 rfl) rfl) <| gu rfl rfl rfl (deT cc6) (x_fa tf36_0 rfl) <| gu rfl rfl rfl (deT cc6) (x_ld tsc23 rfl (S.load 0 rfl 0 rfl)) ?_
   obtain ⟨y7, hy8, H⟩ := obx H
   refine OK.gt rfl rfl rfl (deT cc6) (cl fb145 (@prefix_Holds.ok k x0 x1.Addr _ _ _ _ hG S hy8) rfl ?_)
   rintro _ w ⟨rfl, S⟩
   refine u rfl (x_pickTV (v := .bool y7) rfl (deT cc6) rfl) <| mv (.bool y7) rfl <| rt ?_
   obtain rfl := si H
   exact ⟨_, ⟨_, rfl, rfl⟩, ⟨rfl, ((S.sel 2 [] rfl).weaken hI)⟩⟩
  rw [if_neg cc6] at H
  refine gn rfl rfl rfl (deF cc6) <| gn rfl rfl rfl (deF cc6) <| gn rfl rfl rfl (deF cc6) <| gn rfl rfl rfl (deF cc6) <| u rfl (x_pickFV (v := .bool false) rfl (deF cc6) rfl) <| mv (.bool false) rfl <| rt ?_
  obtain rfl := si H
  exact ⟨_, ⟨_, rfl, rfl⟩, ⟨rfl, ((S.sel 2 [] rfl).weaken hI)⟩⟩
 rw [if_neg cc5] at H
 refine gn rfl rfl rfl (vaF cc5) <| gn rfl rfl rfl (vaF cc5) <| gn rfl rfl rfl (vaF cc5) <| gn rfl rfl rfl (vaF cc5) <| gn rfl rfl rfl (vaF cc5) <| u rfl (x_pickFV (v := .bool false) rfl (vaF cc5) rfl) <| mv (.bool false) rfl <| gn rfl rfl rfl rfl <| gn rfl rfl rfl rfl <| gn rfl rfl rfl rfl <| gn rfl rfl rfl rfl <| u rfl (x_pickFV (v := .bool false) rfl rfl rfl) <| mv (.bool false) rfl <| rt ?_
 obtain rfl := si H
 exact ⟨_, ⟨_, rfl, rfl⟩, ⟨rfl, ((S.sel 2 [] rfl).weaken hI)⟩⟩
def filter_In.f (k : Nat) (x0 : T_api_Range) (x1 : T_api_Prefix) : Option Bool := ((filter_Right.f k x0).bind fun y3 => (if y3 = true then ((prefix_Covers.f k x0.Prefix x1).bind fun y6 => (if y6 = true then (if x1.Len ≥ x0.Min then (some (decide (x1.Len ≤ x0.Max))) else (some false)) else (some false))) else (some false)))
abbrev filter_In.C (k : Nat) : Prop := ∀ {x0 : T_api_Range} {x1 : T_api_Prefix} {F : List It} {I : IMem} {w : World} {r : Bool}, Glob I → Own I w (F) → filter_In.f k x0 x1 = some r →
    Calls Tryz.prog 89 #[.agg #[.int .u32 x0.Prefix.Addr, .int .i64 x0.Prefix.Len, .int .i64 x0.Min, .int .i64 x0.Max], .agg #[.int .u32 x1.Addr, .int .i64 x1.Len]] w fun e w' => ∃ v, e = .returned v ∧ v = .bool r ∧ Own I w' (F)
theorem filter_In.ok (k : Nat) : filter_In.C k := by
 intro x0 x1 F I w r hG S H
 have hI := ilr I
 rw [filter_In.f] at H
 refine Calls.ofFW (args := [.agg #[.int .u32 x0.Prefix.Addr, .int .i64 x0.Prefix.Len, .int .i64 x0.Min, .int .i64 x0.Max], .agg #[.int .u32 x1.Addr, .int .i64 x1.Len]]) Tryz.func89 rfl rfl <| sr <| g rfl (o_boxA rfl S fun b1 w S => g rfl (o_boxA rfl S fun b2 w S => mv (.bool false) rfl (sq (rg (u rfl (x_ldA tag69 rfl (S.loadW 1 rfl) rfl) ?_)))))
 obtain ⟨y3, hy4, H⟩ := obx H
 refine g rfl (cl fb41 (@filter_Right.ok k x0 _ _ _ _ hG S hy4) rfl ?_)
 rintro _ w ⟨rfl, S⟩
 refine mv (.bool y3) rfl ?_
 by_cases cc5 : y3 = true
 ·rw [if_pos cc5] at H
  refine gu rfl rfl rfl cc5 (x_fa tf69_0 rfl) <| gu rfl rfl rfl cc5 (x_ldA tag36 rfl (S.loadN 1 rfl 0 2) rfl) <| gu rfl rfl rfl cc5 (x_ldA tag36 rfl (S.loadW 0 rfl) rfl) ?_
  obtain ⟨y6, hy7, H⟩ := obx H
  refine OK.gt rfl rfl rfl cc5 (cl fb121 (@prefix_Covers.ok k x0.Prefix x1 _ _ _ _ hG S hy7) rfl ?_)
  rintro _ w ⟨rfl, S⟩
  refine u rfl (x_pickTV (v := .bool y6) rfl cc5 rfl) <| mv (.bool y6) rfl ?_
  by_cases cc8 : y6 = true
  ·rw [if_pos cc8] at H
   refine gu rfl rfl rfl cc8 (x_fa tf36_1 rfl) <| gu rfl rfl rfl cc8 (x_ld tsc3 rfl (S.load 0 rfl 1 rfl)) <| gu rfl rfl rfl cc8 (x_fa tf69_1 rfl) <| gu rfl rfl rfl cc8 (x_ld tsc3 rfl (S.load 1 rfl 2 rfl)) <| gu rfl rfl rfl cc8 (x_bin rfl rfl rfl) <| u rfl (x_pickTV (v := .bool (decide (x1.Len ≥ x0.Min))) rfl cc8 rfl) <| mv (.bool (decide (x1.Len ≥ x0.Min))) rfl ?_
   by_cases cc9 : x1.Len ≥ x0.Min
   ·rw [if_pos cc9] at H
    refine gu rfl rfl rfl (deT cc9) (x_fa tf36_1 rfl) <| gu rfl rfl rfl (deT cc9) (x_ld tsc3 rfl (S.load 0 rfl 1 rfl)) <| gu rfl rfl rfl (deT cc9) (x_fa tf69_2 rfl) <| gu rfl rfl rfl (deT cc9) (x_ld tsc3 rfl (S.load 1 rfl 3 rfl)) <| gu rfl rfl rfl (deT cc9) (x_bin rfl rfl rfl) <| u rfl (x_pickTV (v := .bool (decide (x1.Len ≤ x0.Max))) rfl (deT cc9) rfl) <| mv (.bool (decide (x1.Len ≤ x0.Max))) rfl <| rt ?_
    obtain rfl := si H
    exact ⟨_, ⟨_, rfl, rfl⟩, ⟨rfl, ((S.sel 2 [] rfl).weaken hI)⟩⟩
   rw [if_neg cc9] at H
   refine gn rfl rfl rfl (deF cc9) <| gn rfl rfl rfl (deF cc9) <| gn rfl rfl rfl (deF cc9) <| gn rfl rfl rfl (deF cc9) <| gn rfl rfl rfl (deF cc9) <| u rfl (x_pickFV (v := .bool false) rfl (deF cc9) rfl) <| mv (.bool false) rfl <| rt ?_
   obtain rfl := si H
   exact ⟨_, ⟨_, rfl, rfl⟩, ⟨rfl, ((S.sel 2 [] rfl).weaken hI)⟩⟩
  rw [if_neg cc8] at H
  refine gn rfl rfl rfl (vaF cc8) <| gn rfl rfl rfl (vaF cc8) <| gn rfl rfl rfl (vaF cc8) <| gn rfl rfl rfl (vaF cc8) <| gn rfl rfl rfl (vaF cc8) <| u rfl (x_pickFV (v := .bool false) rfl (vaF cc8) rfl) <| mv (.bool false) rfl <| gn rfl rfl rfl rfl <| gn rfl rfl rfl rfl <| gn rfl rfl rfl rfl <| gn rfl rfl rfl rfl <| gn rfl rfl rfl rfl <| u rfl (x_pickFV (v := .bool false) rfl rfl rfl) <| mv (.bool false) rfl <| rt ?_
  obtain rfl := si H
  exact ⟨_, ⟨_, rfl, rfl⟩, ⟨rfl, ((S.sel 2 [] rfl).weaken hI)⟩⟩
 rw [if_neg cc5] at H
 refine gn rfl rfl rfl (vaF cc5) <| gn rfl rfl rfl (vaF cc5) <| gn rfl rfl rfl (vaF cc5) <| gn rfl rfl rfl (vaF cc5) <| u rfl (x_pickFV (v := .bool false) rfl (vaF cc5) rfl) <| mv (.bool false) rfl <| gn rfl rfl rfl rfl <| gn rfl rfl rfl rfl <| gn rfl rfl rfl rfl <| gn rfl rfl rfl rfl <| gn rfl rfl rfl rfl <| u rfl (x_pickFV (v := .bool false) rfl rfl rfl) <| mv (.bool false) rfl <| gn rfl rfl rfl rfl <| gn rfl rfl rfl rfl <| gn rfl rfl rfl rfl <| gn rfl rfl rfl rfl <| gn rfl rfl rfl rfl <| u rfl (x_pickFV (v := .bool false) rfl rfl rfl) <| mv (.bool false) rfl <| rt ?_
 obtain rfl := si H
 exact ⟨_, ⟨_, rfl, rfl⟩, ⟨rfl, ((S.sel 2 [] rfl).weaken hI)⟩⟩
def filter_Any_1.f (k : Nat) (x0 : T_api_Range) (x1 : T_api_Prefix) : Option Bool := ((filter_In.f k x0 x1).bind fun y2 => (some y2))
abbrev filter_Any_1.C (k : Nat) : Prop := ∀ {x0 : T_api_Range} {x1 : T_api_Prefix} {bx1 : Nat} {F : List It} {I : IMem} {w : World} {r : Bool}, Glob I → Own I w (.bk bx1 36 [.int .u32 x1.Addr, .int .i64 x1.Len] :: F) → filter_Any_1.f k x0 x1 = some r →
    Calls Tryz.prog 88 #[.agg #[.int .u32 x0.Prefix.Addr, .int .i64 x0.Prefix.Len, .int .i64 x0.Min, .int .i64 x0.Max], pt bx1] w fun e w' => ∃ v, e = .returned v ∧ v = .bool r ∧ Own I w' (.bk bx1 36 [.int .u32 x1.Addr, .int .i64 x1.Len] :: F)
theorem filter_Any_1.ok (k : Nat) : filter_Any_1.C k := by
 intro x0 x1 bx1 F I w r hG S H
 have hI := ilr I
 rw [filter_Any_1.f] at H
 refine Calls.ofFW (args := [.agg #[.int .u32 x0.Prefix.Addr, .int .i64 x0.Prefix.Len, .int .i64 x0.Min, .int .i64 x0.Max], pt bx1]) Tryz.func88 rfl rfl <| sr <| g rfl (o_boxA rfl S fun b1 w S => mv (.bool false) rfl (sq (rg (u rfl (x_ldA tag69 rfl (S.loadW 0 rfl) rfl) (u rfl (x_ldA tag36 rfl (S.loadW 1 rfl) rfl) ?_)))))
 obtain ⟨y2, hy3, H⟩ := obx H
 refine g rfl (cl fb89 (@filter_In.ok k x0 x1 _ _ _ _ hG S hy3) rfl ?_)
 rintro _ w ⟨rfl, S⟩
 refine mv (.bool y2) rfl <| rt ?_
 obtain rfl := si H
 exact ⟨_, ⟨_, rfl, rfl⟩, ⟨rfl, ((S.sel 2 [1] rfl).weaken hI)⟩⟩
def sI_80_w188.l0 : Nat → (List T_api_Range) → T_api_Prefix → Int → Option (Sum Int Unit)
  | 0, _, _, _ => none
  | k + 1, x0, x1_0, n2 => (if n2 < (x0.length : Int) then ((lat x0 n2).bind fun y11 => ((filter_Any_1.f k y11 x1_0).bind fun y18 => (if y18 = true then (some (.inl n2)) else (sI_80_w188.l0 k x0 x1_0 (i64 (n2 + 1)))))) else (some (.inr ())))
def sI_80_w188.f (k : Nat) (x0 : (List T_api_Range)) (x1_0 : T_api_Prefix) : Option Int := (((sI_80_w188.l0 k x0 x1_0 0) : Option (Sum Int Unit)).bind fun o => match o with | .inl r => some r | .inr _ => (some (-1)))
abbrev sI_80_w188.C (k : Nat) : Prop := ∀ {x0 : (List T_api_Range)} {x1_0 : T_api_Prefix} {vx0 : Value} {bx1_0 : Nat} {F : List It} {I : IMem} {w : World} {r : Int}, Glob I → Own I w (.bk bx1_0 36 [.int .u32 x1_0.Addr, .int .i64 x1_0.Len] :: F) → SlR R_api_Range I vx0 x0 → sI_80_w188.f k x0 x1_0 = some r →
    Calls Tryz.prog 80 #[vx0, .func (.func 88) #[] #[pt bx1_0]] w fun e w' => ∃ v, e = .returned v ∧ v = .int .i64 r ∧ Own I w' (.bk bx1_0 36 [.int .u32 x1_0.Addr, .int .i64 x1_0.Len] :: F)
theorem sI_80_w188.ok (k : Nat) : sI_80_w188.C k := by
 intro x0 x1_0 vx0 bx1_0 F I w r hG S hx0 H
 have hI := ilr I
 rw [sI_80_w188.f] at H
 refine Calls.ofFW (args := [vx0, .func (.func 88) #[] #[pt bx1_0]]) Tryz.func80 rfl rfl <| sr <| mv (.int .i64 0) rfl <| sq <| sr <| mv vx0 rfl <| u rfl (x_lenD (r := R_api_Range) tsl24 hx0) <| mv (.int .i64 0) rfl <| bk ?_
 obtain ⟨o5, hl7, HO6⟩ := obx H
 refine FW.cutX 0 (fun σ w => ∃ (J8 : IMem), (.inr ()) = o5 ∧ Has σ [] ∧ I.le J8 ∧ Own J8 w (.bk bx1_0 36 [.int .u32 x1_0.Addr, .int .i64 x1_0.Len] :: F)) ?_ ?_
 ·refine FW.loop k (FL.ind (fun q σ w => ∃ (n2 : Int) (J1 : IMem), sI_80_w188.l0 q x0 x1_0 n2 = some o5 ∧ q ≤ k ∧ Has σ [(0, vx0), (1, .func (.func 88) #[] #[pt bx1_0]), (7, .int .i64 (x0.length : Int)), (8, .int .i64 n2)] ∧ I.le J1 ∧ Own J1 w (.bk bx1_0 36 [.int .u32 x1_0.Addr, .int .i64 x1_0.Len] :: F)) ?_ ?_ k k _ _ (Nat.le_refl _) ⟨0, I, hl7, Nat.le_refl _, ⟨rfl, rfl, rfl, rfl, trivial⟩, (ilr _), S⟩)
  ·rintro σ w ⟨n2, J1, H, _⟩; cases H
  rintro q3 σ w ⟨n2, J1, H, hq9, hσ, hL4, S⟩
  have hx0 := hx0.mono hL4
  have hI := hI.trans hL4
  have hG := hG.mono hL4
  rw [hσ.eq]
  rw [sI_80_w188.l0] at H
  refine sr <| u rfl (x_bin rfl rfl rfl) <| sq ?_
  by_cases cc10 : n2 < (x0.length : Int)
  ·rw [if_pos cc10] at H
   refine cT rfl (deT cc10) <| sk <| sq <| bk <| sr <| mv (.int .i64 n2) rfl <| mv (.int .i64 n2) rfl <| sr <| mv (.func (.func 88) #[] #[pt bx1_0]) rfl <| mv vx0 rfl <| mv (.int .i64 n2) rfl ?_
   obtain ⟨y11, h12, H⟩ := obx H
   refine g rfl (o_ia (r := R_api_Range) tsl24 rfl rfl hx0 rfl h12 fun b13 o14 cs15 hr16 hc17 => ?_)
   obtain rfl := hr16
   refine u rfl (x_ldA tag69 rfl (S.loadI hc17) rfl) ?_
   obtain ⟨y18, hy19, H⟩ := obx H
   refine g rfl (clv rfl fb88 (@filter_Any_1.ok q3 y11 x1_0 _ _ _ _ _ hG S hy19) rfl ?_)
   rintro _ w ⟨rfl, S⟩
   by_cases cc20 : y18 = true
   ·rw [if_pos cc20] at H
    refine cT rfl cc20 <| sq <| FW.anew [(5, .int .i64 n2)] ⟨rfl, trivial⟩ fun σ => rg <| mv (.int .i64 n2) rfl <| mv (.int .i64 n2) rfl <| rt ?_
    obtain rfl := si H
    obtain rfl := si HO6
    exact ⟨_, ⟨_, rfl, rfl⟩, ⟨rfl, (S.weaken hI)⟩⟩
   rw [if_neg cc20] at H
   refine cF rfl (vaF cc20) <| sk <| FW.anew [(0, vx0), (1, .func (.func 88) #[] #[pt bx1_0]), (7, .int .i64 (x0.length : Int)), (8, .int .i64 n2)] ⟨rfl, rfl, rfl, rfl, trivial⟩ fun σ => rg <| u rfl (x_bin rfl rfl rfl) <| mv (.int .i64 (i64 (n2 + 1))) rfl ⟨q3, Nat.le_refl _, (i64 (n2 + 1)), J1, H, (Nat.le_of_succ_le hq9), ⟨rfl, rfl, rfl, rfl, trivial⟩, hL4, S⟩
  rw [if_neg cc10] at H
  refine cF rfl (deF cc10) <| ex ⟨J1, (si H), trivial, hL4, S⟩
 rintro σ w ⟨J8, ho, hσ, hL4, S⟩
 subst ho
 have H := HO6
 try dsimp only at H
 have hI := hI.trans hL4
 rw [hσ.eq]
 refine sr <| mv (.int .i64 (-1)) rfl <| rt ?_
 obtain rfl := si H
 exact ⟨_, ⟨_, rfl, rfl⟩, ⟨rfl, (S.weaken hI)⟩⟩
def sC_42_w188.f (k : Nat) (x0 : (List T_api_Range)) (x1_0 : T_api_Prefix) : Option Bool := ((sI_80_w188.f k x0 x1_0).bind fun y1 => (some (decide (y1 ≥ 0))))
abbrev sC_42_w188.C (k : Nat) : Prop := ∀ {x0 : (List T_api_Range)} {x1_0 : T_api_Prefix} {vx0 : Value} {bx1_0 : Nat} {F : List It} {I : IMem} {w : World} {r : Bool}, Glob I → Own I w (.bk bx1_0 36 [.int .u32 x1_0.Addr, .int .i64 x1_0.Len] :: F) → SlR R_api_Range I vx0 x0 → sC_42_w188.f k x0 x1_0 = some r →
    Calls Tryz.prog 42 #[vx0, .func (.func 88) #[] #[pt bx1_0]] w fun e w' => ∃ v, e = .returned v ∧ v = .bool r ∧ Own I w' (.bk bx1_0 36 [.int .u32 x1_0.Addr, .int .i64 x1_0.Len] :: F)
theorem sC_42_w188.ok (k : Nat) : sC_42_w188.C k := by
 intro x0 x1_0 vx0 bx1_0 F I w r hG S hx0 H
 have hI := ilr I
 rw [sC_42_w188.f] at H
 refine Calls.ofFW (args := [vx0, .func (.func 88) #[] #[pt bx1_0]]) Tryz.func42 rfl rfl <| sr <| mv (.bool false) rfl <| sr <| mv vx0 rfl <| mv (.func (.func 88) #[] #[pt bx1_0]) rfl ?_
 obtain ⟨y1, hy2, H⟩ := obx H
 refine g rfl (cl fb80 (@sI_80_w188.ok k x0 x1_0 _ _ _ _ _ _ hG S hx0 hy2) rfl ?_)
 rintro _ w ⟨rfl, S⟩
 refine u rfl (x_bin rfl rfl rfl) <| mv (.bool (decide (y1 ≥ 0))) rfl <| rt ?_
 obtain rfl := si H
 exact ⟨_, ⟨_, rfl, rfl⟩, ⟨rfl, (S.weaken hI)⟩⟩
def filter_Any.f (k : Nat) (x0 : (List T_api_Range)) (x1 : T_api_Prefix) : Option Bool := ((sC_42_w188.f k x0 x1).bind fun y2 => (some y2))
abbrev filter_Any.C (k : Nat) : Prop := ∀ {x0 : (List T_api_Range)} {x1 : T_api_Prefix} {vx0 : Value} {F : List It} {I : IMem} {w : World} {r : Bool}, Glob I → Own I w (F) → SlR R_api_Range I vx0 x0 → filter_Any.f k x0 x1 = some r →
    Calls Tryz.prog 49 #[vx0, .agg #[.int .u32 x1.Addr, .int .i64 x1.Len]] w fun e w' => ∃ v, e = .returned v ∧ v = .bool r ∧ Own I w' (F)
theorem filter_Any.ok (k : Nat) : filter_Any.C k := by
 intro x0 x1 vx0 F I w r hG S hx0 H
 have hI := ilr I
 rw [filter_Any.f] at H
 refine Calls.ofFW (args := [vx0, .agg #[.int .u32 x1.Addr, .int .i64 x1.Len]]) Tryz.func49 rfl rfl <| sr <| g rfl (o_boxA rfl S fun b1 w S => mv (.bool false) rfl (sq (rg (mv vx0 rfl (u rfl (x_mkfL (l := [pt b1]) rfl) ?_)))))
 obtain ⟨y2, hy3, H⟩ := obx H
 refine g rfl (cl fb42 (@sC_42_w188.ok k x0 x1 _ _ _ _ _ _ hG S hx0 hy3) rfl ?_)
 rintro _ w ⟨rfl, S⟩
 refine mv (.bool y2) rfl <| rt ?_
 obtain rfl := si H
 exact ⟨_, ⟨_, rfl, rfl⟩, ⟨rfl, ((S.sel 1 [] rfl).weaken hI)⟩⟩
def aspath_Flat_1.f (k : Nat) (x0 : T_api_Segment) : Option (List Int) := (some x0.AS)
abbrev aspath_Flat_1.C (k : Nat) : Prop := ∀ {x0 : T_api_Segment} {x0v1 : Value} {F : List It} {I : IMem} {w : World} {r : (List Int)}, Glob I → Own I w (F) → SlR (tInt' .u32) I x0v1 x0.AS → aspath_Flat_1.f k x0 = some r →
    Calls Tryz.prog 93 #[.agg #[.int .i64 x0.Kind, x0v1]] w fun e w' => ∃ v, e = .returned v ∧ ∃ (vy_0 : Value) (J : IMem), I.le J ∧ v = vy_0 ∧ SlR (tInt' .u32) J vy_0 r ∧ Own J w' (F)
theorem aspath_Flat_1.ok (k : Nat) : aspath_Flat_1.C k := by
 intro x0 x0v1 F I w r hG S x0h1 H
 have hI := ilr I
 rw [aspath_Flat_1.f] at H
 refine Calls.ofFW (args := [.agg #[.int .i64 x0.Kind, x0v1]]) Tryz.func93 rfl rfl <| sr <| g rfl (o_boxA rfl S fun b1 w S => mv ((.slice none 0 0)) rfl (sq (rg (u rfl (x_fa tf88_1 rfl) (u rfl (x_ld tsc25 rfl (S.load 0 rfl 1 rfl)) (mv x0v1 rfl (rt ?_)))))))
 obtain rfl := si H
 exact ⟨_, ⟨_, rfl, rfl⟩, ⟨x0v1, I, hI, rfl, x0h1, (S.sel 1 [] rfl)⟩⟩
def aspath_gathered_92_w193.l0 : Nat → (List T_api_Segment) → (List Int) → Int → Option (List Int)
  | 0, _, _, _ => none
  | k + 1, x0, l3, n6 => (if n6 < (x0.length : Int) then ((lat x0 n6).bind fun y18 => ((aspath_Flat_1.f k y18).bind fun y26 => ((app 4 l3 y26).bind fun l30 => (aspath_gathered_92_w193.l0 k x0 l30 (i64 (n6 + 1)))))) else (some l3))
def aspath_gathered_92_w193.f (k : Nat) (x0 : (List T_api_Segment)) : Option (List Int) := ((aspath_gathered_92_w193.l0 k x0 [] 0).bind fun l13 => (some l13))
abbrev aspath_gathered_92_w193.C (k : Nat) : Prop := ∀ {x0 : (List T_api_Segment)} {vx0 : Value} {F : List It} {I : IMem} {w : World} {r : (List Int)}, Glob I → Own I w (F) → SlR R_api_Segment I vx0 x0 → aspath_gathered_92_w193.f k x0 = some r →
    Calls Tryz.prog 92 #[vx0, .func (.func 93) #[] #[]] w fun e w' => ∃ v, e = .returned v ∧ ∃ (vy_0 : Value) (J : IMem), I.le J ∧ v = vy_0 ∧ SlR (tInt' .u32) J vy_0 r ∧ Own J w' (.tv vy_0 23 1 :: F)
theorem aspath_gathered_92_w193.ok (k : Nat) : aspath_gathered_92_w193.C k := by
 intro x0 vx0 F I w r hG S hx0 H
 have hI := ilr I
 rw [aspath_gathered_92_w193.f] at H
 refine Calls.ofFW (args := [vx0, .func (.func 93) #[] #[]]) Tryz.func92 rfl rfl <| sr <| mv ((.slice none 0 0)) rfl <| sr <| mv ((.slice none 0 0)) rfl <| sq <| sr <| mv vx0 rfl <| u rfl (x_lenD (r := R_api_Segment) tsl37 hx0) <| mv (.int .i64 0) rfl <| bk ?_
 have S := S.nil_tv 23 1
 obtain ⟨o9, hl11, HO10⟩ := obx H
 refine FW.cutX 0 (fun σ w => ∃ (l13 : (List Int)) (v14 : Value) (J12 : IMem), l13 = o9 ∧ Has σ [(5, v14)] ∧ I.le J12 ∧ Own J12 w (.tv v14 23 1 :: F) ∧ SlR (tInt' .u32) J12 v14 l13) ?_ ?_
 ·refine FW.loop k (FL.ind (fun q σ w => ∃ (l3 : (List Int)) (n6 : Int) (v4 : Value) (J2 : IMem), aspath_gathered_92_w193.l0 q x0 l3 n6 = some o9 ∧ q ≤ k ∧ Has σ [(1, .func (.func 93) #[] #[]), (5, v4), (8, vx0), (9, .int .i64 (x0.length : Int)), (10, .int .i64 n6)] ∧ I.le J2 ∧ Own J2 w (.tv v4 23 1 :: F) ∧ SlR (tInt' .u32) J2 v4 l3) ?_ ?_ k k _ _ (Nat.le_refl _) ⟨[], 0, (.slice none 0 0), I, hl11, Nat.le_refl _, ⟨rfl, rfl, rfl, rfl, rfl, trivial⟩, (ilr _), S, (SlR.nil _ _)⟩)
  ·rintro σ w ⟨l3, n6, v4, J2, H, _⟩; cases H
  rintro q7 σ w ⟨l3, n6, v4, J2, H, hq16, hσ, hL8, S, h5⟩
  have hx0 := hx0.mono hL8
  have hG := hG.mono hL8
  rw [hσ.eq]
  rw [aspath_gathered_92_w193.l0] at H
  refine sr <| u rfl (x_bin rfl rfl rfl) <| sq ?_
  by_cases cc17 : n6 < (x0.length : Int)
  ·rw [if_pos cc17] at H
   refine cT rfl (deT cc17) <| sk <| sq <| bk <| sq <| rg ?_
   obtain ⟨y18, h19, H⟩ := obx H
   refine g rfl (o_ia (r := R_api_Segment) tsl37 rfl rfl hx0 rfl h19 fun b20 o21 cs22 hr23 hc24 => ?_)
   obtain ⟨y18v1, rfl, y18h1⟩ := hr23
   refine u rfl (x_ldA tag88 rfl (S.loadI hc24) rfl) <| g rfl (o_all tz88 S fun b25 w S => g rfl (o_stA tag88 S 0 rfl rfl rfl rfl (c1 rfl (c1 y18h1.one c0)) rfl fun w S => rg (mv v4 rfl (mv (.func (.func 93) #[] #[]) rfl (u rfl (x_ldA tag88 rfl (S.loadW 0 rfl) rfl) ?_)))))
   obtain ⟨y26, hy27, H⟩ := obx H
   refine g rfl (clv rfl fb93 (@aspath_Flat_1.ok q7 y18 _ _ _ _ _ hG S y18h1 hy27) rfl ?_)
   rintro vy26_0 w ⟨vy26_0q, J28, hJ29, rfl, hy26_0, S⟩
   have h5 := h5.mono hJ29
   have hL8 := hL8.trans hJ29
   obtain ⟨l30, h32, H⟩ := obx H
   refine g rfl (o_appD (r := (tInt' .u32)) tsl25 rfl tz23 rfl rfl S 1 rfl rfl h5 hy26_0 h32 fun v31 w J34 hJ35 S h33 => ?_)
   have hL8 := hL8.trans hJ35
   refine mv v31 rfl <| FW.anew [(1, .func (.func 93) #[] #[]), (5, v31), (8, vx0), (9, .int .i64 (x0.length : Int)), (10, .int .i64 n6)] ⟨rfl, rfl, rfl, rfl, rfl, trivial⟩ fun σ => rg <| u rfl (x_bin rfl rfl rfl) <| mv (.int .i64 (i64 (n6 + 1))) rfl ⟨q7, Nat.le_refl _, l30, (i64 (n6 + 1)), v31, J34, H, (Nat.le_of_succ_le hq16), ⟨rfl, rfl, rfl, rfl, rfl, trivial⟩, hL8, (S.sel 2 [1] rfl), h33⟩
  rw [if_neg cc17] at H
  refine cF rfl (deF cc17) <| ex ⟨l3, v4, J2, (si H), ⟨rfl, trivial⟩, hL8, S, h5⟩
 rintro σ w ⟨l13, v14, J12, ho, hσ, hL8, S, h15⟩
 subst ho
 have H := HO10
 have hI := hI.trans hL8
 rw [hσ.eq]
 refine sr <| mv v14 rfl <| mv v14 rfl <| rt ?_
 obtain rfl := si H
 exact ⟨_, ⟨_, rfl, rfl⟩, ⟨v14, J12, hI, rfl, h15, S⟩⟩
def aspath_Flat.f (k : Nat) (x0 : (List T_api_Segment)) : Option (List Int) := ((aspath_gathered_92_w193.f k x0).bind fun y1 => (some y1))
abbrev aspath_Flat.C (k : Nat) : Prop := ∀ {x0 : (List T_api_Segment)} {vx0 : Value} {F : List It} {I : IMem} {w : World} {r : (List Int)}, Glob I → Own I w (F) → SlR R_api_Segment I vx0 x0 → aspath_Flat.f k x0 = some r →
    Calls Tryz.prog 51 #[vx0] w fun e w' => ∃ v, e = .returned v ∧ ∃ (vy_0 : Value) (J : IMem), I.le J ∧ v = vy_0 ∧ SlR (tInt' .u32) J vy_0 r ∧ Own J w' (.tv vy_0 23 1 :: F)
theorem aspath_Flat.ok (k : Nat) : aspath_Flat.C k := by
 intro x0 vx0 F I w r hG S hx0 H
 have hI := ilr I
 rw [aspath_Flat.f] at H
 refine Calls.ofFW (args := [vx0]) Tryz.func51 rfl rfl <| sr <| mv ((.slice none 0 0)) rfl <| sr <| mv vx0 rfl ?_
 obtain ⟨y1, hy2, H⟩ := obx H
 refine g rfl (cl fb92 (@aspath_gathered_92_w193.ok k x0 _ _ _ _ _ hG S hx0 hy2) rfl ?_)
 rintro vy1_0 w ⟨vy1_0q, J3, hJ4, rfl, hy1_0, S⟩
 have hI := hI.trans hJ4
 refine mv vy1_0 rfl <| rt ?_
 obtain rfl := si H
 exact ⟨_, ⟨_, rfl, rfl⟩, ⟨vy1_0, J3, hI, rfl, hy1_0, S⟩⟩
mutual
def regex_Expr_add.f : Nat → (Option T_regex_Expr) → (List Bool) → Int → Int → Int → Option (List Bool)
  | 0, _, _, _, _, _ => none
  | k + 1, x0, x1, x2, x3, x4 => ((lat x1 x2).bind fun y1 => (if y1 = true then (some x1) else ((lat x1 x2).bind fun y10 => ((x0).bind fun y20 => ((lat y20.prog x2).bind fun y28 => (if y28.op = 1 then ((regex_Expr_add.f k x0 (x1.set x2.toNat true) y28.to_.1 x3 x4).bind fun y37 => ((regex_Expr_add.f k x0 y37 y28.to_.2 x3 x4).bind fun y41 => (some y41))) else (if y28.op = 2 then (if x3 = 0 then ((regex_Expr_add.f k x0 (x1.set x2.toNat true) (i64 (x2 + 1)) x3 x4).bind fun y47 => (some y47)) else (some (x1.set x2.toNat true))) else (if y28.op = 3 then (if x3 = x4 then ((regex_Expr_add.f k x0 (x1.set x2.toNat true) (i64 (x2 + 1)) x3 x4).bind fun y53 => (some y53)) else (some (x1.set x2.toNat true))) else (some (x1.set x2.toNat true))))))))))
end
abbrev regex_Expr_add.C (k : Nat) : Prop := ∀ {x0 : (Option T_regex_Expr)} {x1 : (List Bool)} {x2 : Int} {x3 : Int} {x4 : Int} {vx0 : Value} {vx1 : Value} {cx1 : List Value} {F : List It} {I : IMem} {w : World} {r : (List Bool)}, Glob I → Own I w (.av vx1 4 1 cx1 :: F) → PtR R_regex_Expr I vx0 x0 → Flat tBool I cx1 x1 → regex_Expr_add.f k x0 x1 x2 x3 x4 = some r →
    Calls Tryz.prog 90 #[vx0, vx1, .int .i64 x2, .int .i64 x3, .int .i64 x4] w fun e w' => ∃ v, e = .returned v ∧ ∃ (cy_0 : List Value) (J : IMem), I.le J ∧ v = .tuple #[] ∧ Flat tBool J cy_0 r ∧ Own J w' (.av vx1 4 1 cy_0 :: F)
theorem regex_Expr_add.step (k : Nat) (ih_regex_Expr_add : ∀ m, m ≤ k → regex_Expr_add.C m) : regex_Expr_add.C (k + 1) := by
 intro x0 x1 x2 x3 x4 vx0 vx1 cx1 F I w r hG S hx0 hx1 H
 have hI := ilr I
 rw [regex_Expr_add.f] at H
 refine Calls.ofFW (args := [vx0, vx1, .int .i64 x2, .int .i64 x3, .int .i64 x4]) Tryz.func90 rfl rfl <| sq <| sr <| mv vx1 rfl <| mv (.int .i64 x2) rfl ?_
 obtain ⟨y1, h2, H⟩ := obx H
 refine g rfl (o_iaV (r := tBool) tsl140 rfl rfl S 0 rfl hx1 rfl h2 fun b3 cs4 cc5 hv6 hr7 hc8 => ?_)
 obtain rfl := hr7
 refine u rfl (x_ld tsc4 rfl (S.loadV 0 rfl hv6 (hc8 0 _ rfl))) ?_
 by_cases cc9 : y1 = true
 ·rw [if_pos cc9] at H
  refine cT rfl cc9 <| rt ?_
  obtain rfl := si H
  exact ⟨_, rfl, ⟨cx1, I, hI, rfl, hx1, S⟩⟩
 rw [if_neg cc9] at H
 refine cF rfl (vaF cc9) <| sk <| sr <| mv vx1 rfl <| mv (.int .i64 x2) rfl ?_
 obtain ⟨y10, h11, H⟩ := obx H
 refine g rfl (o_iaV (r := tBool) tsl140 rfl rfl S 0 rfl hx1 rfl h11 fun b12 cs13 cc14 hv15 hr16 hc17 => ?_)
 obtain rfl := hr16
 refine g rfl (o_stV (r := tBool) (f := 0) (y' := true) tone4 rfl S 0 rfl hv15 hx1 h11 rfl hc17 rfl rfl rfl rfl rfl fun w a18 S h19 => sq (FW.anew [(0, vx0), (1, vx1), (2, .int .i64 x2), (3, .int .i64 x3), (4, .int .i64 x4)] ⟨rfl, rfl, rfl, rfl, rfl, trivial⟩ fun σ => rg (mv vx0 rfl ?_)))
 obtain ⟨y20, hy21, H⟩ := obx H
 obtain ⟨b22, o23, cs24, hv25, hr26, hc27⟩ := hx0.some hy21
 obtain ⟨y20v1, y20v2, y20v4, rfl, y20h1, y20h2, y20h4⟩ := hr26
 refine u rfl (x_nk hv25) <| u rfl (x_fa tf128_1 rfl) <| u rfl (x_ld tsc126 rfl (S.cell _ _ _ (hc27 4 _ rfl))) <| mv (.int .i64 x2) rfl ?_
 obtain ⟨y28, h29, H⟩ := obx H
 refine g rfl (o_ia (r := R_regex_step) tsl126 rfl rfl y20h4 rfl h29 fun b30 o31 cs32 hr33 hc34 => ?_)
 obtain ⟨y28v1, rfl, y28h1⟩ := hr33
 refine u rfl (x_ldA tag132 rfl (S.loadI hc34) rfl) <| g rfl (o_all tz132 S fun b35 w S => g rfl (o_stA tag132 S 0 rfl rfl rfl rfl (c1 rfl (c1 y28h1.one (c1 rfl (c1 rfl (c1 rfl (c1 rfl c0)))))) rfl fun w S => sq (FW.anew [(0, vx0), (1, vx1), (2, .int .i64 x2), (3, .int .i64 x3), (4, .int .i64 x4), (10, pt b35)] ⟨rfl, rfl, rfl, rfl, rfl, rfl, trivial⟩ fun σ => rg (u rfl (x_fa tf132_0 rfl) (u rfl (x_ld tsc3 rfl (S.load 0 rfl 0 rfl)) (bk (sq (rg (u rfl (x_bin rfl rfl rfl) (mv (.bool (y28.op == 1)) rfl ?_))))))))))
 by_cases cc36 : y28.op = 1
 ·rw [if_pos cc36] at H
  refine cT rfl (eqT cc36) <| sr <| mv vx0 rfl <| mv vx1 rfl <| u rfl (x_fa tf132_4 rfl) <| u rfl (x_iaA tar130 rfl rfl (by decide) (by decide)) <| u rfl (x_ld tsc3 rfl (S.load 0 rfl 4 rfl)) <| mv (.int .i64 x3) rfl <| mv (.int .i64 x4) rfl ?_
  obtain ⟨y37, hy38, H⟩ := obx H
  refine g rfl (cl fb90 (@ih_regex_Expr_add k (by omega) x0 (x1.set x2.toNat true) y28.to_.1 x3 x4 _ _ _ _ _ _ _ hG (S.sel 2 [1, 0] rfl) hx0 h19 hy38) rfl ?_)
  rintro _ w ⟨cy37_0, J39, hJ40, rfl, hy37_0, S⟩
  have hx0 := hx0.mono hJ40
  have hI := hI.trans hJ40
  have hG := hG.mono hJ40
  refine FW.anew [(0, vx0), (1, vx1), (3, .int .i64 x3), (4, .int .i64 x4), (10, pt b35)] ⟨rfl, rfl, rfl, rfl, rfl, trivial⟩ fun σ => rg <| mv vx0 rfl <| mv vx1 rfl <| u rfl (x_fa tf132_4 rfl) <| u rfl (x_iaA tar130 rfl rfl (by decide) (by decide)) <| u rfl (x_ld tsc3 rfl (S.load 1 rfl 5 rfl)) <| mv (.int .i64 x3) rfl <| mv (.int .i64 x4) rfl ?_
  obtain ⟨y41, hy42, H⟩ := obx H
  refine g rfl (cl fb90 (@ih_regex_Expr_add k (by omega) x0 y37 y28.to_.2 x3 x4 _ _ _ _ _ _ _ hG S hx0 hy37_0 hy42) rfl ?_)
  rintro _ w ⟨cy41_0, J43, hJ44, rfl, hy41_0, S⟩
  have hI := hI.trans hJ44
  obtain rfl := si H
  exact ⟨_, rfl, ⟨cy41_0, J43, hI, rfl, hy41_0, (S.sel 2 [0] rfl)⟩⟩
 rw [if_neg cc36] at H
 refine cF rfl (eqF cc36) <| sr <| u rfl (x_bin rfl rfl rfl) <| mv (.bool (y28.op == 2)) rfl ?_
 by_cases cc45 : y28.op = 2
 ·rw [if_pos cc45] at H
  refine cT rfl (eqT cc45) <| sr <| mv (.int .i64 x3) rfl <| u rfl (x_bin rfl rfl rfl) ?_
  by_cases cc46 : x3 = 0
  ·rw [if_pos cc46] at H
   refine cT rfl (eqT cc46) <| FW.anew [(0, vx0), (1, vx1), (2, .int .i64 x2), (3, .int .i64 x3), (4, .int .i64 x4)] ⟨rfl, rfl, rfl, rfl, rfl, trivial⟩ fun σ => rg <| mv vx0 rfl <| mv vx1 rfl <| mv (.int .i64 x2) rfl <| u rfl (x_bin rfl rfl rfl) <| mv (.int .i64 x3) rfl <| mv (.int .i64 x4) rfl ?_
   obtain ⟨y47, hy48, H⟩ := obx H
   refine g rfl (cl fb90 (@ih_regex_Expr_add k (by omega) x0 (x1.set x2.toNat true) (i64 (x2 + 1)) x3 x4 _ _ _ _ _ _ _ hG (S.sel 2 [1, 0] rfl) hx0 h19 hy48) rfl ?_)
   rintro _ w ⟨cy47_0, J49, hJ50, rfl, hy47_0, S⟩
   have hI := hI.trans hJ50
   obtain rfl := si H
   exact ⟨_, rfl, ⟨cy47_0, J49, hI, rfl, hy47_0, (S.sel 2 [0] rfl)⟩⟩
  rw [if_neg cc46] at H
  refine cF rfl (eqF cc46) <| sk ?_
  obtain rfl := si H
  exact ⟨_, rfl, ⟨a18, I, hI, rfl, h19, (S.sel 2 [1] rfl)⟩⟩
 rw [if_neg cc45] at H
 refine cF rfl (eqF cc45) <| sr <| u rfl (x_bin rfl rfl rfl) <| mv (.bool (y28.op == 3)) rfl ?_
 by_cases cc51 : y28.op = 3
 ·rw [if_pos cc51] at H
  refine cT rfl (eqT cc51) <| sq <| FW.anew [(0, vx0), (1, vx1), (2, .int .i64 x2), (3, .int .i64 x3), (4, .int .i64 x4)] ⟨rfl, rfl, rfl, rfl, rfl, trivial⟩ fun σ => rg <| mv (.int .i64 x3) rfl <| mv (.int .i64 x4) rfl <| u rfl (x_bin rfl rfl rfl) ?_
  by_cases cc52 : x3 = x4
  ·rw [if_pos cc52] at H
   refine cT rfl (eqT cc52) <| rg <| mv vx0 rfl <| mv vx1 rfl <| mv (.int .i64 x2) rfl <| u rfl (x_bin rfl rfl rfl) <| mv (.int .i64 x3) rfl <| mv (.int .i64 x4) rfl ?_
   obtain ⟨y53, hy54, H⟩ := obx H
   refine g rfl (cl fb90 (@ih_regex_Expr_add k (by omega) x0 (x1.set x2.toNat true) (i64 (x2 + 1)) x3 x4 _ _ _ _ _ _ _ hG (S.sel 2 [1, 0] rfl) hx0 h19 hy54) rfl ?_)
   rintro _ w ⟨cy53_0, J55, hJ56, rfl, hy53_0, S⟩
   have hI := hI.trans hJ56
   obtain rfl := si H
   exact ⟨_, rfl, ⟨cy53_0, J55, hI, rfl, hy53_0, (S.sel 2 [0] rfl)⟩⟩
  rw [if_neg cc52] at H
  refine cF rfl (eqF cc52) <| sk ?_
  obtain rfl := si H
  exact ⟨_, rfl, ⟨a18, I, hI, rfl, h19, (S.sel 2 [1] rfl)⟩⟩
 rw [if_neg cc51] at H
 refine cF rfl (eqF cc51) <| sk ?_
 obtain rfl := si H
 exact ⟨_, rfl, ⟨a18, I, hI, rfl, h19, (S.sel 2 [1] rfl)⟩⟩
theorem regex_Expr_add.zero : regex_Expr_add.C 0 := by
  intro _ _ _ _ _ _ _ _ _ _ _ _ _ _ _ _ H; cases H
theorem regex_Expr_add.grp : ∀ k m, m ≤ k → regex_Expr_add.C m
  | 0, m, h => by
    obtain rfl : m = 0 := by omega
    exact regex_Expr_add.zero
  | k + 1, 0, _ => regex_Expr_add.zero
  | k + 1, m + 1, h => regex_Expr_add.step m (fun i hi => (regex_Expr_add.grp k i (by omega)))
theorem regex_Expr_add.ok (k : Nat) : regex_Expr_add.C k := (regex_Expr_add.grp k k (Nat.le_refl k))
def regex_step_takes.l0 : Nat → T_regex_step → Int → Int → Option (Sum Bool Unit)
  | 0, _, _, _ => none
  | k + 1, x0, x1, n4 => (if n4 < (x0.spans.length : Int) then ((lat x0.spans n4).bind fun y13 => (if x1 ≥ y13.from_ then (if x1 ≤ y13.to_ then (some (.inl (!x0.not))) else (regex_step_takes.l0 k x0 x1 (i64 (n4 + 1)))) else (regex_step_takes.l0 k x0 x1 (i64 (n4 + 1))))) else (some (.inr ())))
def regex_step_takes.f (k : Nat) (x0 : T_regex_step) (x1 : Int) : Option Bool := (if x0.all = true then (some true) else (((regex_step_takes.l0 k x0 x1 0) : Option (Sum Bool Unit)).bind fun o => match o with | .inl r => some r | .inr _ => (some x0.not)))
abbrev regex_step_takes.C (k : Nat) : Prop := ∀ {x0 : T_regex_step} {x1 : Int} {x0v1 : Value} {F : List It} {I : IMem} {w : World} {r : Bool}, Glob I → Own I w (F) → SlR R_regex_span I x0v1 x0.spans → regex_step_takes.f k x0 x1 = some r →
    Calls Tryz.prog 91 #[.agg #[.int .i64 x0.op, x0v1, .bool x0.all, .bool x0.not, .int .i64 x0.to_.1, .int .i64 x0.to_.2], .int .u32 x1] w fun e w' => ∃ v, e = .returned v ∧ v = .bool r ∧ Own I w' (F)
theorem regex_step_takes.ok (k : Nat) : regex_step_takes.C k := by
 intro x0 x1 x0v1 F I w r hG S x0h1 H
 have hI := ilr I
 rw [regex_step_takes.f] at H
 refine Calls.ofFW (args := [.agg #[.int .i64 x0.op, x0v1, .bool x0.all, .bool x0.not, .int .i64 x0.to_.1, .int .i64 x0.to_.2], .int .u32 x1]) Tryz.func91 rfl rfl <| sr <| g rfl (o_boxA rfl S fun b1 w S => mv (.bool false) rfl (sq (sq (rg (u rfl (x_fa tf132_2 rfl) (u rfl (x_ld tsc4 rfl (S.load 0 rfl 2 rfl)) ?_))))))
 by_cases cc2 : x0.all = true
 ·rw [if_pos cc2] at H
  refine cT rfl cc2 <| sr <| mv (.bool true) rfl <| rt ?_
  obtain rfl := si H
  exact ⟨_, ⟨_, rfl, rfl⟩, ⟨rfl, ((S.sel 1 [] rfl).weaken hI)⟩⟩
 rw [if_neg cc2] at H
 refine cF rfl (vaF cc2) <| sk <| sq <| sr <| u rfl (x_fa tf132_1 rfl) <| u rfl (x_ld tsc119 rfl (S.load 0 rfl 1 rfl)) <| u rfl (x_lenD (r := R_regex_span) tsl119 x0h1) <| mv (.int .i64 0) rfl <| bk ?_
 obtain ⟨o7, hl9, HO8⟩ := obx H
 refine FW.cutX 0 (fun σ w => ∃ (J10 : IMem), (.inr ()) = o7 ∧ Has σ [(2, pt b1)] ∧ I.le J10 ∧ Own J10 w (.bk b1 132 [.int .i64 x0.op, x0v1, .bool x0.all, .bool x0.not, .int .i64 x0.to_.1, .int .i64 x0.to_.2] :: F)) ?_ ?_
 ·refine FW.loop k (FL.ind (fun q σ w => ∃ (n4 : Int) (J3 : IMem), regex_step_takes.l0 q x0 x1 n4 = some o7 ∧ q ≤ k ∧ Has σ [(1, .int .u32 x1), (2, pt b1), (10, x0v1), (11, .int .i64 (x0.spans.length : Int)), (12, .int .i64 n4)] ∧ I.le J3 ∧ Own J3 w (.bk b1 132 [.int .i64 x0.op, x0v1, .bool x0.all, .bool x0.not, .int .i64 x0.to_.1, .int .i64 x0.to_.2] :: F)) ?_ ?_ k k _ _ (Nat.le_refl _) ⟨0, I, hl9, Nat.le_refl _, ⟨rfl, rfl, rfl, rfl, rfl, trivial⟩, (ilr _), S⟩)
  ·rintro σ w ⟨n4, J3, H, _⟩; cases H
  rintro q5 σ w ⟨n4, J3, H, hq11, hσ, hL6, S⟩
  have x0h1 := x0h1.mono hL6
  have hI := hI.trans hL6
  rw [hσ.eq]
  rw [regex_step_takes.l0] at H
  refine sr <| u rfl (x_bin rfl rfl rfl) <| sq ?_
  by_cases cc12 : n4 < (x0.spans.length : Int)
  ·rw [if_pos cc12] at H
   refine cT rfl (deT cc12) <| sk <| sq <| bk <| sq <| rg ?_
   obtain ⟨y13, h14, H⟩ := obx H
   refine g rfl (o_ia (r := R_regex_span) tsl119 rfl rfl x0h1 rfl h14 fun b15 o16 cs17 hr18 hc19 => ?_)
   obtain rfl := hr18
   refine u rfl (x_ldA tag167 rfl (S.loadI hc19) rfl) <| g rfl (o_all tz167 S fun b20 w S => g rfl (o_stA tag167 S 0 rfl rfl rfl rfl (c1 rfl (c1 rfl c0)) rfl fun w S => sq (rg (mv (.int .u32 x1) rfl (u rfl (x_fa tf167_0 rfl) (u rfl (x_ld tsc23 rfl (S.load 0 rfl 0 rfl)) (u rfl (x_bin rfl rfl rfl) (mv (.bool (decide (x1 ≥ y13.from_))) rfl ?_))))))))
   by_cases cc21 : x1 ≥ y13.from_
   ·rw [if_pos cc21] at H
    refine gu rfl rfl rfl (deT cc21) (x_movV (v := .int .u32 x1) rfl) <| gu rfl rfl rfl (deT cc21) (x_fa tf167_1 rfl) <| gu rfl rfl rfl (deT cc21) (x_ld tsc23 rfl (S.load 0 rfl 1 rfl)) <| gu rfl rfl rfl (deT cc21) (x_bin rfl rfl rfl) <| u rfl (x_pickTV (v := .bool (decide (x1 ≤ y13.to_))) rfl (deT cc21) rfl) ?_
    by_cases cc22 : x1 ≤ y13.to_
    ·rw [if_pos cc22] at H
     refine cT rfl (deT cc22) <| sq <| FW.anew [(2, pt b1)] ⟨rfl, trivial⟩ fun σ => rg <| u rfl (x_fa tf132_3 rfl) <| u rfl (x_ld tsc4 rfl (S.load 1 rfl 3 rfl)) <| u rfl (x_not' rfl) <| mv (.bool (!x0.not)) rfl <| rt ?_
     obtain rfl := si H
     obtain rfl := si HO8
     exact ⟨_, ⟨_, rfl, rfl⟩, ⟨rfl, ((S.sel 2 [] rfl).weaken hI)⟩⟩
    rw [if_neg cc22] at H
    refine cF rfl (deF cc22) <| sk <| FW.anew [(1, .int .u32 x1), (2, pt b1), (10, x0v1), (11, .int .i64 (x0.spans.length : Int)), (12, .int .i64 n4)] ⟨rfl, rfl, rfl, rfl, rfl, trivial⟩ fun σ => rg <| u rfl (x_bin rfl rfl rfl) <| mv (.int .i64 (i64 (n4 + 1))) rfl ⟨q5, Nat.le_refl _, (i64 (n4 + 1)), J3, H, (Nat.le_of_succ_le hq11), ⟨rfl, rfl, rfl, rfl, rfl, trivial⟩, hL6, (S.sel 2 [1] rfl)⟩
   rw [if_neg cc21] at H
   refine gn rfl rfl rfl (deF cc21) <| gn rfl rfl rfl (deF cc21) <| gn rfl rfl rfl (deF cc21) <| gn rfl rfl rfl (deF cc21) <| u rfl (x_pickFV (v := .bool false) rfl (deF cc21) rfl) <| cF rfl rfl <| sk <| FW.anew [(1, .int .u32 x1), (2, pt b1), (10, x0v1), (11, .int .i64 (x0.spans.length : Int)), (12, .int .i64 n4)] ⟨rfl, rfl, rfl, rfl, rfl, trivial⟩ fun σ => rg <| u rfl (x_bin rfl rfl rfl) <| mv (.int .i64 (i64 (n4 + 1))) rfl ⟨q5, Nat.le_refl _, (i64 (n4 + 1)), J3, H, (Nat.le_of_succ_le hq11), ⟨rfl, rfl, rfl, rfl, rfl, trivial⟩, hL6, (S.sel 2 [1] rfl)⟩
  rw [if_neg cc12] at H
  refine cF rfl (deF cc12) <| ex ⟨J3, (si H), ⟨rfl, trivial⟩, hL6, S⟩
 rintro σ w ⟨J10, ho, hσ, hL6, S⟩
 subst ho
 have H := HO8
 try dsimp only at H
 have hI := hI.trans hL6
 rw [hσ.eq]
 refine sr <| u rfl (x_fa tf132_3 rfl) <| u rfl (x_ld tsc4 rfl (S.load 0 rfl 3 rfl)) <| mv (.bool x0.not) rfl <| rt ?_
 obtain rfl := si H
 exact ⟨_, ⟨_, rfl, rfl⟩, ⟨rfl, ((S.sel 1 [] rfl).weaken hI)⟩⟩
def regex_Expr_Match.l1 : Nat → (Option T_regex_Expr) → (List Int) → T_regex_Expr → Int → (List Bool) → (List Bool) → Int → Option (List Bool)
  | 0, _, _, _, _, _, _, _ => none
  | k + 1, x0, x1, y2, n23, y30, l67, n72 => (if n72 < (y30.length : Int) then ((lat y30 n72).bind fun y86 => (if y86 = true then ((lat y2.prog n72).bind fun y96 => (if y96.op = 0 then ((lat y2.prog n72).bind fun y104 => ((lat x1 n23).bind fun y111 => ((regex_step_takes.f k y104 y111).bind fun y118 => (if y118 = true then ((regex_Expr_add.f k x0 l67 (i64 (n72 + 1)) (i64 (n23 + 1)) (x1.length : Int)).bind fun y121 => (regex_Expr_Match.l1 k x0 x1 y2 n23 y30 y121 (i64 (n72 + 1)))) else (regex_Expr_Match.l1 k x0 x1 y2 n23 y30 l67 (i64 (n72 + 1))))))) else (regex_Expr_Match.l1 k x0 x1 y2 n23 y30 l67 (i64 (n72 + 1))))) else (regex_Expr_Match.l1 k x0 x1 y2 n23 y30 l67 (i64 (n72 + 1))))) else (some l67))
def regex_Expr_Match.l0 : Nat → (Option T_regex_Expr) → (List Int) → T_regex_Expr → (List Bool) → Int → Option (Sum Bool Unit)
  | 0, _, _, _, _, _ => none
  | k + 1, x0, x1, y2, l18, n23 => ((regex_Expr_add.f k x0 l18 0 n23 (x1.length : Int)).bind fun y30 => ((lat y30 (i64 ((y2.prog.length : Int) - 1))).bind fun y34 => (if y34 = true then ((lat y30 (i64 ((y2.prog.length : Int) - 1))).bind fun y43 => (some (.inl y43))) else (if n23 = (x1.length : Int) then ((lat y30 (i64 ((y2.prog.length : Int) - 1))).bind fun y52 => (some (.inl y52))) else ((made 1 false (y2.prog.length : Int)).bind fun l60 => ((regex_Expr_Match.l1 k x0 x1 y2 n23 y30 l60 0).bind fun l79 => (regex_Expr_Match.l0 k x0 x1 y2 l79 (i64 (n23 + 1)))))))))
def regex_Expr_Match.f (k : Nat) (x0 : (Option T_regex_Expr)) (x1 : (List Int)) : Option Bool := (if x0.isNone = true then (some false) else ((x0).bind fun y2 => (if (y2.prog.length : Int) = 0 then (some false) else ((made 1 false (y2.prog.length : Int)).bind fun l11 => ((regex_Expr_Match.l0 k x0 x1 y2 l11 0).bind fun o => match o with | .inl r => some r | .inr _ => none)))))
abbrev regex_Expr_Match.C (k : Nat) : Prop := ∀ {x0 : (Option T_regex_Expr)} {x1 : (List Int)} {vx0 : Value} {vx1 : Value} {F : List It} {I : IMem} {w : World} {r : Bool}, Glob I → Own I w (F) → PtR R_regex_Expr I vx0 x0 → SlR (tInt' .u32) I vx1 x1 → regex_Expr_Match.f k x0 x1 = some r →
    Calls Tryz.prog 50 #[vx0, vx1] w fun e w' => ∃ v, e = .returned v ∧ v = .bool r ∧ Own I w' (F)
theorem regex_Expr_Match.ok (k : Nat) : regex_Expr_Match.C k := by
 intro x0 x1 vx0 vx1 F I w r hG S hx0 hx1 H
 have hI := ilr I
 rw [regex_Expr_Match.f] at H
 refine Calls.ofFW (args := [vx0, vx1]) Tryz.func50 rfl rfl <| sr <| mv (.bool false) rfl <| sq <| sr <| mv vx0 rfl <| u rfl (x_onil (r := R_regex_Expr) tptr75 hx0 rfl) <| mv (.bool x0.isNone) rfl ?_
 by_cases cc1 : x0.isNone = true
 ·rw [if_pos cc1] at H
  refine gn rfl rfl rfl cc1 <| gn rfl rfl rfl cc1 <| gn rfl rfl rfl cc1 <| gn rfl rfl rfl cc1 <| gn rfl rfl rfl cc1 <| gn rfl rfl rfl cc1 <| u rfl (x_pickTV (v := .bool true) rfl cc1 rfl) <| cT rfl rfl <| sr <| mv (.bool false) rfl <| rt ?_
  obtain rfl := si H
  exact ⟨_, ⟨_, rfl, rfl⟩, ⟨rfl, (S.weaken hI)⟩⟩
 rw [if_neg cc1] at H
 refine gu rfl rfl rfl (vaF cc1) (x_movV (v := vx0) rfl) ?_
 obtain ⟨y2, hy3, H⟩ := obx H
 obtain ⟨b4, o5, cs6, hv7, hr8, hc9⟩ := hx0.some hy3
 obtain ⟨y2v1, y2v2, y2v4, rfl, y2h1, y2h2, y2h4⟩ := hr8
 refine gu rfl rfl rfl (vaF cc1) (x_nk hv7) <| gu rfl rfl rfl (vaF cc1) (x_fa tf128_1 rfl) <| gu rfl rfl rfl (vaF cc1) (x_ld tsc126 rfl (S.cell _ _ _ (hc9 4 _ rfl))) <| gu rfl rfl rfl (vaF cc1) (x_lenD (r := R_regex_step) tsl126 y2h4) <| gu rfl rfl rfl (vaF cc1) (x_bin rfl rfl rfl) <| u rfl (x_pickFV (v := .bool ((y2.prog.length : Int) == 0)) rfl (vaF cc1) rfl) ?_
 by_cases cc10 : (y2.prog.length : Int) = 0
 ·rw [if_pos cc10] at H
  refine cT rfl (eqT cc10) <| sq <| FW.anew [] trivial fun σ => rg <| mv (.bool false) rfl <| rt ?_
  obtain rfl := si H
  exact ⟨_, ⟨_, rfl, rfl⟩, ⟨rfl, (S.weaken hI)⟩⟩
 rw [if_neg cc10] at H
 refine cF rfl (eqF cc10) <| sk <| sq <| FW.anew [(0, vx0), (1, vx1)] ⟨rfl, rfl, trivial⟩ fun σ => rg <| mv vx0 rfl <| u rfl (x_nk hv7) <| u rfl (x_fa tf128_1 rfl) <| u rfl (x_ld tsc126 rfl (S.cell _ _ _ (hc9 4 _ rfl))) <| u rfl (x_lenD (r := R_regex_step) tsl126 y2h4) <| u rfl (x_bin rfl rfl rfl) <| mv (.int .i64 (i64 ((y2.prog.length : Int) - 1))) rfl <| sq <| FW.anew [(0, vx0), (1, vx1), (5, .int .i64 (i64 ((y2.prog.length : Int) - 1)))] ⟨rfl, rfl, rfl, trivial⟩ fun σ => rg <| mv vx0 rfl <| u rfl (x_nk hv7) <| u rfl (x_fa tf128_1 rfl) <| u rfl (x_ld tsc126 rfl (S.cell _ _ _ (hc9 4 _ rfl))) <| u rfl (x_lenD (r := R_regex_step) tsl126 y2h4) ?_
 obtain ⟨l11, h13, H⟩ := obx H
 refine g rfl (o_mk (r := tBool) (x0 := false) tsl140 tz4 rfl rfl rfl rfl rfl h13 rfl S fun v12 w a15 S h14 => mv v12 rfl (sq (FW.anew [(0, vx0), (1, vx1), (5, .int .i64 (i64 ((y2.prog.length : Int) - 1))), (6, v12)] ⟨rfl, rfl, rfl, rfl, trivial⟩ fun σ => rg (mv (.int .i64 0) rfl (bk ?_)))))
 obtain ⟨o26, hl28, HO27⟩ := obx H
 refine FW.loop k (FL.ind (fun q σ w => ∃ (l18 : (List Bool)) (n23 : Int) (v19 : Value) (a20 : List Value) (J17 : IMem), regex_Expr_Match.l0 q x0 x1 y2 l18 n23 = some o26 ∧ q ≤ k ∧ Has σ [(0, vx0), (1, vx1), (5, .int .i64 (i64 ((y2.prog.length : Int) - 1))), (6, v19), (7, .int .i64 n23)] ∧ I.le J17 ∧ Own J17 w (.av v19 4 1 a20 :: F) ∧ Flat tBool J17 a20 l18) ?_ ?_ k k _ _ (Nat.le_refl _) ⟨l11, 0, v12, a15, I, hl28, Nat.le_refl _, ⟨rfl, rfl, rfl, rfl, rfl, trivial⟩, (ilr _), S, h14⟩)
 ·rintro σ w ⟨l18, n23, v19, a20, J17, H, _⟩; cases H
 rintro q24 σ w ⟨l18, n23, v19, a20, J17, H, hq29, hσ, hL25, S, h21⟩
 have hx0 := hx0.mono hL25
 have hx1 := hx1.mono hL25
 have hc9 := hc9.mono hL25
 have y2h4 := y2h4.mono hL25
 have hI := hI.trans hL25
 have hG := hG.mono hL25
 rw [hσ.eq]
 rw [regex_Expr_Match.l0] at H
 refine sq <| bk <| sr <| mv vx0 rfl <| mv v19 rfl <| mv (.int .i64 n23) rfl <| mv vx1 rfl <| u rfl (x_lenD (r := (tInt' .u32)) tsl25 hx1) ?_
 obtain ⟨y30, hy31, H⟩ := obx H
 refine g rfl (cl fb90 (@regex_Expr_add.ok q24 x0 l18 0 n23 (x1.length : Int) _ _ _ _ _ _ _ hG S hx0 h21 hy31) rfl ?_)
 rintro _ w ⟨cy30_0, J32, hJ33, rfl, hy30_0, S⟩
 have hx0 := hx0.mono hJ33
 have hx1 := hx1.mono hJ33
 have hc9 := hc9.mono hJ33
 have y2h4 := y2h4.mono hJ33
 have hI := hI.trans hJ33
 have hL25 := hL25.trans hJ33
 have hG := hG.mono hJ33
 refine sq <| sr <| mv v19 rfl <| mv (.int .i64 (i64 ((y2.prog.length : Int) - 1))) rfl ?_
 obtain ⟨y34, h35, H⟩ := obx H
 refine g rfl (o_iaV (r := tBool) tsl140 rfl rfl S 0 rfl hy30_0 rfl h35 fun b36 cs37 cc38 hv39 hr40 hc41 => ?_)
 obtain rfl := hr40
 refine u rfl (x_ld tsc4 rfl (S.loadV 0 rfl hv39 (hc41 0 _ rfl))) <| mv (.bool y34) rfl ?_
 by_cases cc42 : y34 = true
 ·rw [if_pos cc42] at H
  refine gn rfl rfl rfl cc42 <| gn rfl rfl rfl cc42 <| gn rfl rfl rfl cc42 <| gn rfl rfl rfl cc42 <| u rfl (x_pickTV (v := .bool true) rfl cc42 rfl) <| cT rfl rfl <| sq <| FW.anew [(5, .int .i64 (i64 ((y2.prog.length : Int) - 1))), (6, v19)] ⟨rfl, rfl, trivial⟩ fun σ => rg <| mv v19 rfl <| mv (.int .i64 (i64 ((y2.prog.length : Int) - 1))) rfl ?_
  obtain ⟨y43, h44, H⟩ := obx H
  refine g rfl (o_iaV (r := tBool) tsl140 rfl rfl S 0 rfl hy30_0 rfl h44 fun b45 cs46 cc47 hv48 hr49 hc50 => ?_)
  obtain rfl := hr49
  refine u rfl (x_ld tsc4 rfl (S.loadV 0 rfl hv48 (hc50 0 _ rfl))) <| mv (.bool y43) rfl <| rt ?_
  obtain rfl := si H
  obtain rfl := si HO27
  exact ⟨_, ⟨_, rfl, rfl⟩, ⟨rfl, ((S.sel 1 [] rfl).weaken hI)⟩⟩
 rw [if_neg cc42] at H
 refine gu rfl rfl rfl (vaF cc42) (x_movV (v := .int .i64 n23) rfl) <| gu rfl rfl rfl (vaF cc42) (x_movV (v := vx1) rfl) <| gu rfl rfl rfl (vaF cc42) (x_lenD (r := (tInt' .u32)) tsl25 hx1) <| gu rfl rfl rfl (vaF cc42) (x_bin rfl rfl rfl) <| u rfl (x_pickFV (v := .bool (n23 == (x1.length : Int))) rfl (vaF cc42) rfl) ?_
 by_cases cc51 : n23 = (x1.length : Int)
 ·rw [if_pos cc51] at H
  refine cT rfl (eqT cc51) <| sq <| FW.anew [(5, .int .i64 (i64 ((y2.prog.length : Int) - 1))), (6, v19)] ⟨rfl, rfl, trivial⟩ fun σ => rg <| mv v19 rfl <| mv (.int .i64 (i64 ((y2.prog.length : Int) - 1))) rfl ?_
  obtain ⟨y52, h53, H⟩ := obx H
  refine g rfl (o_iaV (r := tBool) tsl140 rfl rfl S 0 rfl hy30_0 rfl h53 fun b54 cs55 cc56 hv57 hr58 hc59 => ?_)
  obtain rfl := hr58
  refine u rfl (x_ld tsc4 rfl (S.loadV 0 rfl hv57 (hc59 0 _ rfl))) <| mv (.bool y52) rfl <| rt ?_
  obtain rfl := si H
  obtain rfl := si HO27
  exact ⟨_, ⟨_, rfl, rfl⟩, ⟨rfl, ((S.sel 1 [] rfl).weaken hI)⟩⟩
 rw [if_neg cc51] at H
 refine cF rfl (eqF cc51) <| sk <| sq <| FW.anew [(0, vx0), (1, vx1), (5, .int .i64 (i64 ((y2.prog.length : Int) - 1))), (6, v19), (7, .int .i64 n23)] ⟨rfl, rfl, rfl, rfl, rfl, trivial⟩ fun σ => rg <| mv vx0 rfl <| u rfl (x_nk hv7) <| u rfl (x_fa tf128_1 rfl) <| u rfl (x_ld tsc126 rfl (S.cell _ _ _ (hc9 4 _ rfl))) <| u rfl (x_lenD (r := R_regex_step) tsl126 y2h4) ?_
 obtain ⟨l60, h62, H⟩ := obx H
 refine g rfl (o_mk (r := tBool) (x0 := false) tsl140 tz4 rfl rfl rfl rfl rfl h62 rfl S fun v61 w a64 S h63 => mv v61 rfl (sq (sq (FW.anew [(0, vx0), (1, vx1), (5, .int .i64 (i64 ((y2.prog.length : Int) - 1))), (6, v19), (7, .int .i64 n23), (8, v61)] ⟨rfl, rfl, rfl, rfl, rfl, rfl, trivial⟩ fun σ => rg (mv v19 rfl (u rfl (x_lenV (r := tBool) tsl140 rfl rfl S 1 rfl hy30_0) (mv (.int .i64 0) rfl (bk ?_))))))))
 obtain ⟨o75, hl77, HO76⟩ := obx H
 refine FW.cutX 2 (fun σ w => ∃ (l79 : (List Bool)) (v80 : Value) (a81 : List Value) (J78 : IMem), l79 = o75 ∧ Has σ [(0, vx0), (1, vx1), (5, .int .i64 (i64 ((y2.prog.length : Int) - 1))), (7, .int .i64 n23), (8, v80)] ∧ J32.le J78 ∧ Own J78 w (.av v80 4 1 a81 :: F) ∧ Flat tBool J78 a81 l79) ?_ ?_
 ·refine FW.loop q24 (FL.ind (fun q σ w => ∃ (l67 : (List Bool)) (n72 : Int) (v68 : Value) (a69 : List Value) (J66 : IMem), regex_Expr_Match.l1 q x0 x1 y2 n23 y30 l67 n72 = some o75 ∧ q ≤ q24 ∧ Has σ [(0, vx0), (1, vx1), (5, .int .i64 (i64 ((y2.prog.length : Int) - 1))), (7, .int .i64 n23), (8, v68), (61, v19), (62, .int .i64 (y30.length : Int)), (63, .int .i64 n72)] ∧ J32.le J66 ∧ Own J66 w (.av v19 4 1 cy30_0 :: .av v68 4 1 a69 :: F) ∧ Flat tBool J66 a69 l67) ?_ ?_ q24 q24 _ _ (Nat.le_refl _) ⟨l60, 0, v61, a64, J32, hl77, Nat.le_refl _, ⟨rfl, rfl, rfl, rfl, rfl, rfl, rfl, rfl, trivial⟩, (ilr _), (S.sel 2 [1, 0] rfl), h63⟩)
  ·rintro σ w ⟨l67, n72, v68, a69, J66, H, _⟩; cases H
  rintro q73 σ w ⟨l67, n72, v68, a69, J66, H, hq84, hσ, hL74, S, h70⟩
  have hx0 := hx0.mono hL74
  have hx1 := hx1.mono hL74
  have hc9 := hc9.mono hL74
  have y2h4 := y2h4.mono hL74
  have hy30_0 := hy30_0.mono hL74
  have hG := hG.mono hL74
  rw [hσ.eq]
  rw [regex_Expr_Match.l1] at H
  refine sr <| u rfl (x_bin rfl rfl rfl) <| sq ?_
  by_cases cc85 : n72 < (y30.length : Int)
  ·rw [if_pos cc85] at H
   refine cT rfl (deT cc85) <| sk <| sq <| bk <| sr <| mv (.int .i64 n72) rfl ?_
   obtain ⟨y86, h87, H⟩ := obx H
   refine g rfl (o_iaV (r := tBool) tsl140 rfl rfl S 0 rfl hy30_0 rfl h87 fun b88 cs89 cc90 hv91 hr92 hc93 => ?_)
   obtain rfl := hr92
   refine u rfl (x_ld tsc4 rfl (S.loadV 0 rfl hv91 (hc93 0 _ rfl))) <| mv (.int .i64 n72) rfl <| mv (.bool y86) rfl <| sq ?_
   have S := S.drew
   refine FW.regionD mixed ?_
   have hO := Hold.nil (w := { w with drawn := w.drawn + 1 })
   refine am 0 (.bool y86) rfl (by kernel_rfl) hO <| am 1 (.bool y86) rfl (by kernel_rfl) hO ?_
   by_cases cc94 : y86 = true
   ·rw [if_pos cc94] at H
    refine AQ.pure 2 rfl (by kernel_rfl) (by kernel_rfl) (by kernel_rfl) (gT rfl rfl cc94) hO (fun w => x_movV (v := vx0) rfl) <| AQ.pure 3 rfl (by kernel_rfl) (by kernel_rfl) (by kernel_rfl) (gT rfl rfl cc94) hO (fun w => x_nk hv7) <| AQ.pure 4 rfl (by kernel_rfl) (by kernel_rfl) (by kernel_rfl) (gT rfl rfl cc94) hO (fun w => x_fa tf128_1 rfl) ?_
    have hR95 := ilr J66
    refine AQ.take (S := Stab J66 []) 5 rfl (by kernel_rfl) (by kernel_rfl) (by kernel_rfl) (gT rfl rfl cc94) hO (Stab.nil S hR95) (fun w hS => x_ld tsc126 rfl (hS.cell _ _ _ (hc9 4 _ rfl))) fun hO => AQ.pure 6 rfl (by kernel_rfl) (by kernel_rfl) (by kernel_rfl) (gT rfl rfl cc94) hO (fun w => x_movV (v := .int .i64 n72) rfl) ?_
    obtain ⟨y96, h97, H⟩ := obx H
    refine AQ.pureE 7 rfl (by kernel_rfl) (by kernel_rfl) (by kernel_rfl) (gT rfl rfl cc94) hO (e_ia (r := R_regex_step) tsl126 rfl rfl y2h4 rfl h97) ?_
    rintro _ ⟨b98, o99, cs100, rfl, hr101, hc102⟩
    obtain ⟨y96v1, rfl, y96h1⟩ := hr101
    refine AQ.pure 8 rfl (by kernel_rfl) (by kernel_rfl) (by kernel_rfl) (gT rfl rfl cc94) hO (fun w => x_fa tf132_0 rfl) <| AQ.take (S := Stab J66 []) 9 rfl (by kernel_rfl) (by kernel_rfl) (by kernel_rfl) (gT rfl rfl cc94) hO (Stab.nil S hR95) (fun w hS => x_ld tsc3 rfl (hS.cell _ _ _ (hc102 0 _ rfl))) fun hO => AQ.pure 10 rfl (by kernel_rfl) (by kernel_rfl) (by kernel_rfl) (gT rfl rfl cc94) hO (fun w => x_bin rfl rfl rfl) <| ap 11 rfl (by kernel_rfl) hO (fun w => x_pickTV (v := .bool (y96.op == 0)) rfl cc94 rfl) <| am 12 (.bool (y96.op == 0)) rfl (by kernel_rfl) hO ?_
    by_cases cc103 : y96.op = 0
    ·rw [if_pos cc103] at H
     refine AQ.pure 13 rfl (by kernel_rfl) (by kernel_rfl) (by kernel_rfl) (gT rfl rfl (eqT cc103)) hO (fun w => x_movV (v := vx0) rfl) <| AQ.pure 14 rfl (by kernel_rfl) (by kernel_rfl) (by kernel_rfl) (gT rfl rfl (eqT cc103)) hO (fun w => x_nk hv7) <| AQ.pure 15 rfl (by kernel_rfl) (by kernel_rfl) (by kernel_rfl) (gT rfl rfl (eqT cc103)) hO (fun w => x_fa tf128_1 rfl) <| AQ.take (S := Stab J66 []) 16 rfl (by kernel_rfl) (by kernel_rfl) (by kernel_rfl) (gT rfl rfl (eqT cc103)) hO (Stab.nil S hR95) (fun w hS => x_ld tsc126 rfl (hS.cell _ _ _ (hc9 4 _ rfl))) fun hO => AQ.pure 17 rfl (by kernel_rfl) (by kernel_rfl) (by kernel_rfl) (gT rfl rfl (eqT cc103)) hO (fun w => x_movV (v := .int .i64 n72) rfl) ?_
     obtain ⟨y104, h105, H⟩ := obx H
     refine AQ.pureE 18 rfl (by kernel_rfl) (by kernel_rfl) (by kernel_rfl) (gT rfl rfl (eqT cc103)) hO (e_ia (r := R_regex_step) tsl126 rfl rfl y2h4 rfl h105) ?_
     rintro _ ⟨b106, o107, cs108, rfl, hr109, hc110⟩
     obtain ⟨y104v1, rfl, y104h1⟩ := hr109
     refine AQ.take (S := Stab J66 []) 19 rfl (by kernel_rfl) (by kernel_rfl) (by kernel_rfl) (gT rfl rfl (eqT cc103)) hO (Stab.nil S hR95) (fun w hS => x_ldA tag132 rfl (hS.loadI hc110) rfl) fun hO => AQ.pure 20 rfl (by kernel_rfl) (by kernel_rfl) (by kernel_rfl) (gT rfl rfl (eqT cc103)) hO (fun w => x_movV (v := vx1) rfl) <| AQ.pure 21 rfl (by kernel_rfl) (by kernel_rfl) (by kernel_rfl) (gT rfl rfl (eqT cc103)) hO (fun w => x_movV (v := .int .i64 n23) rfl) ?_
     obtain ⟨y111, h112, H⟩ := obx H
     refine AQ.pureE 22 rfl (by kernel_rfl) (by kernel_rfl) (by kernel_rfl) (gT rfl rfl (eqT cc103)) hO (e_ia (r := (tInt' .u32)) tsl25 rfl rfl hx1 rfl h112) ?_
     rintro _ ⟨b113, o114, cs115, rfl, hr116, hc117⟩
     obtain rfl := hr116
     refine AQ.take (S := Stab J66 []) 23 rfl (by kernel_rfl) (by kernel_rfl) (by kernel_rfl) (gT rfl rfl (eqT cc103)) hO (Stab.nil S hR95) (fun w hS => x_ld tsc23 rfl (hS.cell _ _ _ (hc117 0 _ rfl))) fun hO => AQ.one 24 [23, 19, 16, 9, 5] [false, false, true, true, true] (by kernel_rfl) rfl (by kernel_rfl) ?_
     obtain ⟨y118, hy119, H⟩ := obx H
     refine OK.gt rfl rfl rfl (eqT cc103) (cl fb91 (@regex_step_takes.ok q73 y104 y111 _ _ _ _ _ hG S y104h1 hy119) rfl ?_)
     rintro _ w ⟨rfl, S⟩
     refine andI (Hold.cons (Stab.nil S hR95) (Hold.cons (Stab.nil S hR95) (Hold.cons (Stab.nil S hR95) Hold.nil))) fun hO => ap 25 rfl (by kernel_rfl) hO (fun w => x_pickTV (v := .bool y118) rfl (eqT cc103) rfl) <| AQ.done (by kernel_rfl) ?_
     by_cases cc120 : y118 = true
     ·rw [if_pos cc120] at H
      refine cT rfl cc120 <| FW.anew [(0, vx0), (1, vx1), (5, .int .i64 (i64 ((y2.prog.length : Int) - 1))), (7, .int .i64 n23), (8, v68), (9, .int .i64 n72), (61, v19), (62, .int .i64 (y30.length : Int)), (63, .int .i64 n72)] ⟨rfl, rfl, rfl, rfl, rfl, rfl, rfl, rfl, rfl, trivial⟩ fun σ => rg <| mv vx0 rfl <| mv v68 rfl <| mv (.int .i64 n72) rfl <| u rfl (x_bin rfl rfl rfl) <| mv (.int .i64 n23) rfl <| u rfl (x_bin rfl rfl rfl) <| mv vx1 rfl <| u rfl (x_lenD (r := (tInt' .u32)) tsl25 hx1) ?_
      obtain ⟨y121, hy122, H⟩ := obx H
      refine g rfl (cl fb90 (@regex_Expr_add.ok q73 x0 l67 (i64 (n72 + 1)) (i64 (n23 + 1)) (x1.length : Int) _ _ _ _ _ _ _ hG (S.sel 2 [1, 0] rfl) hx0 h70 hy122) rfl ?_)
      rintro _ w ⟨cy121_0, J123, hJ124, rfl, hy121_0, S⟩
      have hL74 := hL74.trans hJ124
      refine FW.anew [(0, vx0), (1, vx1), (5, .int .i64 (i64 ((y2.prog.length : Int) - 1))), (7, .int .i64 n23), (8, v68), (61, v19), (62, .int .i64 (y30.length : Int)), (63, .int .i64 n72)] ⟨rfl, rfl, rfl, rfl, rfl, rfl, rfl, rfl, trivial⟩ fun σ => rg <| u rfl (x_bin rfl rfl rfl) <| mv (.int .i64 (i64 (n72 + 1))) rfl ⟨q73, Nat.le_refl _, y121, (i64 (n72 + 1)), v68, cy121_0, J123, H, (Nat.le_of_succ_le hq84), ⟨rfl, rfl, rfl, rfl, rfl, rfl, rfl, rfl, trivial⟩, hL74, (S.sel 2 [1, 0] rfl), hy121_0⟩
     rw [if_neg cc120] at H
     refine cF rfl (vaF cc120) <| sk <| FW.anew [(0, vx0), (1, vx1), (5, .int .i64 (i64 ((y2.prog.length : Int) - 1))), (7, .int .i64 n23), (8, v68), (61, v19), (62, .int .i64 (y30.length : Int)), (63, .int .i64 n72)] ⟨rfl, rfl, rfl, rfl, rfl, rfl, rfl, rfl, trivial⟩ fun σ => rg <| u rfl (x_bin rfl rfl rfl) <| mv (.int .i64 (i64 (n72 + 1))) rfl ⟨q73, Nat.le_refl _, l67, (i64 (n72 + 1)), v68, a69, J66, H, (Nat.le_of_succ_le hq84), ⟨rfl, rfl, rfl, rfl, rfl, rfl, rfl, rfl, trivial⟩, hL74, S, h70⟩
    rw [if_neg cc103] at H
    refine AQ.skip 13 rfl (by kernel_rfl) (by kernel_rfl) (by kernel_rfl) rfl rfl (eqF cc103) hO <| AQ.skip 14 rfl (by kernel_rfl) (by kernel_rfl) (by kernel_rfl) rfl rfl (eqF cc103) hO <| AQ.skip 15 rfl (by kernel_rfl) (by kernel_rfl) (by kernel_rfl) rfl rfl (eqF cc103) hO <| AQ.skip 16 rfl (by kernel_rfl) (by kernel_rfl) (by kernel_rfl) rfl rfl (eqF cc103) hO <| AQ.skip 17 rfl (by kernel_rfl) (by kernel_rfl) (by kernel_rfl) rfl rfl (eqF cc103) hO <| AQ.skip 18 rfl (by kernel_rfl) (by kernel_rfl) (by kernel_rfl) rfl rfl (eqF cc103) hO <| AQ.skip 19 rfl (by kernel_rfl) (by kernel_rfl) (by kernel_rfl) rfl rfl (eqF cc103) hO <| AQ.skip 20 rfl (by kernel_rfl) (by kernel_rfl) (by kernel_rfl) rfl rfl (eqF cc103) hO <| AQ.skip 21 rfl (by kernel_rfl) (by kernel_rfl) (by kernel_rfl) rfl rfl (eqF cc103) hO <| AQ.skip 22 rfl (by kernel_rfl) (by kernel_rfl) (by kernel_rfl) rfl rfl (eqF cc103) hO <| AQ.skip 23 rfl (by kernel_rfl) (by kernel_rfl) (by kernel_rfl) rfl rfl (eqF cc103) hO <| AQ.skip 24 rfl (by kernel_rfl) (by kernel_rfl) (by kernel_rfl) rfl rfl (eqF cc103) hO <| ap 25 rfl (by kernel_rfl) hO (fun w => x_pickFV (v := .bool false) rfl (eqF cc103) rfl) <| AQ.done (by kernel_rfl) <| cF rfl rfl <| sk <| FW.anew [(0, vx0), (1, vx1), (5, .int .i64 (i64 ((y2.prog.length : Int) - 1))), (7, .int .i64 n23), (8, v68), (61, v19), (62, .int .i64 (y30.length : Int)), (63, .int .i64 n72)] ⟨rfl, rfl, rfl, rfl, rfl, rfl, rfl, rfl, trivial⟩ fun σ => rg <| u rfl (x_bin rfl rfl rfl) <| mv (.int .i64 (i64 (n72 + 1))) rfl ⟨q73, Nat.le_refl _, l67, (i64 (n72 + 1)), v68, a69, J66, H, (Nat.le_of_succ_le hq84), ⟨rfl, rfl, rfl, rfl, rfl, rfl, rfl, rfl, trivial⟩, hL74, S, h70⟩
   rw [if_neg cc94] at H
   refine AQ.skip 2 rfl (by kernel_rfl) (by kernel_rfl) (by kernel_rfl) rfl rfl (vaF cc94) hO <| AQ.skip 3 rfl (by kernel_rfl) (by kernel_rfl) (by kernel_rfl) rfl rfl (vaF cc94) hO <| AQ.skip 4 rfl (by kernel_rfl) (by kernel_rfl) (by kernel_rfl) rfl rfl (vaF cc94) hO <| AQ.skip 5 rfl (by kernel_rfl) (by kernel_rfl) (by kernel_rfl) rfl rfl (vaF cc94) hO <| AQ.skip 6 rfl (by kernel_rfl) (by kernel_rfl) (by kernel_rfl) rfl rfl (vaF cc94) hO <| AQ.skip 7 rfl (by kernel_rfl) (by kernel_rfl) (by kernel_rfl) rfl rfl (vaF cc94) hO <| AQ.skip 8 rfl (by kernel_rfl) (by kernel_rfl) (by kernel_rfl) rfl rfl (vaF cc94) hO <| AQ.skip 9 rfl (by kernel_rfl) (by kernel_rfl) (by kernel_rfl) rfl rfl (vaF cc94) hO <| AQ.skip 10 rfl (by kernel_rfl) (by kernel_rfl) (by kernel_rfl) rfl rfl (vaF cc94) hO <| ap 11 rfl (by kernel_rfl) hO (fun w => x_pickFV (v := .bool false) rfl (vaF cc94) rfl) <| am 12 (.bool false) rfl (by kernel_rfl) hO <| AQ.skip 13 rfl (by kernel_rfl) (by kernel_rfl) (by kernel_rfl) rfl rfl rfl hO <| AQ.skip 14 rfl (by kernel_rfl) (by kernel_rfl) (by kernel_rfl) rfl rfl rfl hO <| AQ.skip 15 rfl (by kernel_rfl) (by kernel_rfl) (by kernel_rfl) rfl rfl rfl hO <| AQ.skip 16 rfl (by kernel_rfl) (by kernel_rfl) (by kernel_rfl) rfl rfl rfl hO <| AQ.skip 17 rfl (by kernel_rfl) (by kernel_rfl) (by kernel_rfl) rfl rfl rfl hO <| AQ.skip 18 rfl (by kernel_rfl) (by kernel_rfl) (by kernel_rfl) rfl rfl rfl hO <| AQ.skip 19 rfl (by kernel_rfl) (by kernel_rfl) (by kernel_rfl) rfl rfl rfl hO <| AQ.skip 20 rfl (by kernel_rfl) (by kernel_rfl) (by kernel_rfl) rfl rfl rfl hO <| AQ.skip 21 rfl (by kernel_rfl) (by kernel_rfl) (by kernel_rfl) rfl rfl rfl hO <| AQ.skip 22 rfl (by kernel_rfl) (by kernel_rfl) (by kernel_rfl) rfl rfl rfl hO <| AQ.skip 23 rfl (by kernel_rfl) (by kernel_rfl) (by kernel_rfl) rfl rfl rfl hO <| AQ.skip 24 rfl (by kernel_rfl) (by kernel_rfl) (by kernel_rfl) rfl rfl rfl hO <| ap 25 rfl (by kernel_rfl) hO (fun w => x_pickFV (v := .bool false) rfl rfl rfl) <| AQ.done (by kernel_rfl) <| cF rfl rfl <| sk <| FW.anew [(0, vx0), (1, vx1), (5, .int .i64 (i64 ((y2.prog.length : Int) - 1))), (7, .int .i64 n23), (8, v68), (61, v19), (62, .int .i64 (y30.length : Int)), (63, .int .i64 n72)] ⟨rfl, rfl, rfl, rfl, rfl, rfl, rfl, rfl, trivial⟩ fun σ => rg <| u rfl (x_bin rfl rfl rfl) <| mv (.int .i64 (i64 (n72 + 1))) rfl ⟨q73, Nat.le_refl _, l67, (i64 (n72 + 1)), v68, a69, J66, H, (Nat.le_of_succ_le hq84), ⟨rfl, rfl, rfl, rfl, rfl, rfl, rfl, rfl, trivial⟩, hL74, S, h70⟩
  rw [if_neg cc85] at H
  refine cF rfl (deF cc85) <| ex ⟨l67, v68, a69, J66, (si H), ⟨rfl, rfl, rfl, rfl, rfl, trivial⟩, hL74, (S.sel 2 [1] rfl), h70⟩
 rintro σ w ⟨l79, v80, a81, J78, ho, hσ, hL74, S, h82⟩
 subst ho
 have H := HO76
 have hL25 := hL25.trans hL74
 rw [hσ.eq]
 refine rg <| mv v80 rfl <| mv v80 rfl <| rg <| mv (.int .i64 n23) rfl <| u rfl (x_bin rfl rfl rfl) <| mv (.int .i64 (i64 (n23 + 1))) rfl ⟨q24, Nat.le_refl _, l79, (i64 (n23 + 1)), v80, a81, J78, H, (Nat.le_of_succ_le hq29), ⟨rfl, rfl, rfl, rfl, rfl, trivial⟩, hL25, S, h82⟩
def slices_Index_123.l0 : Nat → (List Int) → Int → Int → Option (Sum Int Unit)
  | 0, _, _, _ => none
  | k + 1, x0, x1, n2 => (if n2 < (x0.length : Int) then ((lat x0 n2).bind fun y11 => (if x1 = y11 then (some (.inl n2)) else (slices_Index_123.l0 k x0 x1 (i64 (n2 + 1))))) else (some (.inr ())))
def slices_Index_123.f (k : Nat) (x0 : (List Int)) (x1 : Int) : Option Int := (((slices_Index_123.l0 k x0 x1 0) : Option (Sum Int Unit)).bind fun o => match o with | .inl r => some r | .inr _ => (some (-1)))
abbrev slices_Index_123.C (k : Nat) : Prop := ∀ {x0 : (List Int)} {x1 : Int} {vx0 : Value} {F : List It} {I : IMem} {w : World} {r : Int}, Glob I → Own I w (F) → SlR (tInt' .u32) I vx0 x0 → slices_Index_123.f k x0 x1 = some r →
    Calls Tryz.prog 123 #[vx0, .int .u32 x1] w fun e w' => ∃ v, e = .returned v ∧ v = .int .i64 r ∧ Own I w' (F)
theorem slices_Index_123.ok (k : Nat) : slices_Index_123.C k := by
 intro x0 x1 vx0 F I w r hG S hx0 H
 have hI := ilr I
 rw [slices_Index_123.f] at H
 refine Calls.ofFW (args := [vx0, .int .u32 x1]) Tryz.func123 rfl rfl <| sr <| mv (.int .i64 0) rfl <| sq <| sr <| mv vx0 rfl <| u rfl (x_lenD (r := (tInt' .u32)) tsl25 hx0) <| mv (.int .i64 0) rfl <| bk ?_
 obtain ⟨o5, hl7, HO6⟩ := obx H
 refine FW.cutX 0 (fun σ w => ∃ (J8 : IMem), (.inr ()) = o5 ∧ Has σ [] ∧ I.le J8 ∧ Own J8 w (F)) ?_ ?_
 ·refine FW.loop k (FL.ind (fun q σ w => ∃ (n2 : Int) (J1 : IMem), slices_Index_123.l0 q x0 x1 n2 = some o5 ∧ q ≤ k ∧ Has σ [(0, vx0), (1, .int .u32 x1), (7, .int .i64 (x0.length : Int)), (8, .int .i64 n2)] ∧ I.le J1 ∧ Own J1 w (F)) ?_ ?_ k k _ _ (Nat.le_refl _) ⟨0, I, hl7, Nat.le_refl _, ⟨rfl, rfl, rfl, rfl, trivial⟩, (ilr _), S⟩)
  ·rintro σ w ⟨n2, J1, H, _⟩; cases H
  rintro q3 σ w ⟨n2, J1, H, hq9, hσ, hL4, S⟩
  have hx0 := hx0.mono hL4
  have hI := hI.trans hL4
  rw [hσ.eq]
  rw [slices_Index_123.l0] at H
  refine sr <| u rfl (x_bin rfl rfl rfl) <| sq ?_
  by_cases cc10 : n2 < (x0.length : Int)
  ·rw [if_pos cc10] at H
   refine cT rfl (deT cc10) <| sk <| sq <| bk <| sr <| mv (.int .i64 n2) rfl <| mv (.int .i64 n2) rfl <| sr <| mv (.int .u32 x1) rfl <| mv vx0 rfl <| mv (.int .i64 n2) rfl ?_
   obtain ⟨y11, h12, H⟩ := obx H
   refine g rfl (o_ia (r := (tInt' .u32)) tsl25 rfl rfl hx0 rfl h12 fun b13 o14 cs15 hr16 hc17 => ?_)
   obtain rfl := hr16
   refine u rfl (x_ld tsc23 rfl (S.cell _ _ _ (hc17 0 _ rfl))) <| u rfl (x_bin rfl rfl rfl) ?_
   by_cases cc18 : x1 = y11
   ·rw [if_pos cc18] at H
    refine cT rfl (eqT cc18) <| sq <| FW.anew [(5, .int .i64 n2)] ⟨rfl, trivial⟩ fun σ => rg <| mv (.int .i64 n2) rfl <| mv (.int .i64 n2) rfl <| rt ?_
    obtain rfl := si H
    obtain rfl := si HO6
    exact ⟨_, ⟨_, rfl, rfl⟩, ⟨rfl, (S.weaken hI)⟩⟩
   rw [if_neg cc18] at H
   refine cF rfl (eqF cc18) <| sk <| FW.anew [(0, vx0), (1, .int .u32 x1), (7, .int .i64 (x0.length : Int)), (8, .int .i64 n2)] ⟨rfl, rfl, rfl, rfl, trivial⟩ fun σ => rg <| u rfl (x_bin rfl rfl rfl) <| mv (.int .i64 (i64 (n2 + 1))) rfl ⟨q3, Nat.le_refl _, (i64 (n2 + 1)), J1, H, (Nat.le_of_succ_le hq9), ⟨rfl, rfl, rfl, rfl, trivial⟩, hL4, S⟩
  rw [if_neg cc10] at H
  refine cF rfl (deF cc10) <| ex ⟨J1, (si H), trivial, hL4, S⟩
 rintro σ w ⟨J8, ho, hσ, hL4, S⟩
 subst ho
 have H := HO6
 try dsimp only at H
 have hI := hI.trans hL4
 rw [hσ.eq]
 refine sr <| mv (.int .i64 (-1)) rfl <| rt ?_
 obtain rfl := si H
 exact ⟨_, ⟨_, rfl, rfl⟩, ⟨rfl, (S.weaken hI)⟩⟩
def slices_Contains_96.f (k : Nat) (x0 : (List Int)) (x1 : Int) : Option Bool := ((slices_Index_123.f k x0 x1).bind fun y1 => (some (decide (y1 ≥ 0))))
abbrev slices_Contains_96.C (k : Nat) : Prop := ∀ {x0 : (List Int)} {x1 : Int} {vx0 : Value} {F : List It} {I : IMem} {w : World} {r : Bool}, Glob I → Own I w (F) → SlR (tInt' .u32) I vx0 x0 → slices_Contains_96.f k x0 x1 = some r →
    Calls Tryz.prog 96 #[vx0, .int .u32 x1] w fun e w' => ∃ v, e = .returned v ∧ v = .bool r ∧ Own I w' (F)
theorem slices_Contains_96.ok (k : Nat) : slices_Contains_96.C k := by
 intro x0 x1 vx0 F I w r hG S hx0 H
 have hI := ilr I
 rw [slices_Contains_96.f] at H
 refine Calls.ofFW (args := [vx0, .int .u32 x1]) Tryz.func96 rfl rfl <| sr <| mv (.bool false) rfl <| sr <| mv vx0 rfl <| mv (.int .u32 x1) rfl ?_
 obtain ⟨y1, hy2, H⟩ := obx H
 refine g rfl (cl fb123 (@slices_Index_123.ok k x0 x1 _ _ _ _ _ hG S hx0 hy2) rfl ?_)
 rintro _ w ⟨rfl, S⟩
 refine u rfl (x_bin rfl rfl rfl) <| mv (.bool (decide (y1 ≥ 0))) rfl <| rt ?_
 obtain rfl := si H
 exact ⟨_, ⟨_, rfl, rfl⟩, ⟨rfl, (S.weaken hI)⟩⟩
def filter_All_1.f (k : Nat) (x0 : Int) (x1 : (List Int)) : Option Bool := ((slices_Contains_96.f k x1 x0).bind fun y1 => (some (!y1)))
abbrev filter_All_1.C (k : Nat) : Prop := ∀ {x0 : Int} {x1 : (List Int)} {vx1 : Value} {bx1 : Nat} {F : List It} {I : IMem} {w : World} {r : Bool}, Glob I → Own I w (.bk bx1 25 [vx1] :: F) → SlR (tInt' .u32) I vx1 x1 → filter_All_1.f k x0 x1 = some r →
    Calls Tryz.prog 95 #[.int .u32 x0, pt bx1] w fun e w' => ∃ v, e = .returned v ∧ v = .bool r ∧ Own I w' (.bk bx1 25 [vx1] :: F)
theorem filter_All_1.ok (k : Nat) : filter_All_1.C k := by
 intro x0 x1 vx1 bx1 F I w r hG S hx1 H
 have hI := ilr I
 rw [filter_All_1.f] at H
 refine Calls.ofFW (args := [.int .u32 x0, pt bx1]) Tryz.func95 rfl rfl <| sr <| mv (.bool false) rfl <| sr <| u rfl (x_ld tsc25 rfl (S.load 0 rfl 0 rfl)) <| mv (.int .u32 x0) rfl ?_
 obtain ⟨y1, hy2, H⟩ := obx H
 refine g rfl (cl fb96 (@slices_Contains_96.ok k x1 x0 _ _ _ _ _ hG S hx1 hy2) rfl ?_)
 rintro _ w ⟨rfl, S⟩
 refine u rfl (x_not' rfl) <| mv (.bool (!y1)) rfl <| rt ?_
 obtain rfl := si H
 exact ⟨_, ⟨_, rfl, rfl⟩, ⟨rfl, (S.weaken hI)⟩⟩
def sI_122_w195.l0 : Nat → (List Int) → (List Int) → Int → Option (Sum Int Unit)
  | 0, _, _, _ => none
  | k + 1, x0, x1_0, n2 => (if n2 < (x0.length : Int) then ((lat x0 n2).bind fun y11 => ((filter_All_1.f k y11 x1_0).bind fun y18 => (if y18 = true then (some (.inl n2)) else (sI_122_w195.l0 k x0 x1_0 (i64 (n2 + 1)))))) else (some (.inr ())))
def sI_122_w195.f (k : Nat) (x0 : (List Int)) (x1_0 : (List Int)) : Option Int := (((sI_122_w195.l0 k x0 x1_0 0) : Option (Sum Int Unit)).bind fun o => match o with | .inl r => some r | .inr _ => (some (-1)))
abbrev sI_122_w195.C (k : Nat) : Prop := ∀ {x0 : (List Int)} {x1_0 : (List Int)} {vx0 : Value} {vx1_0 : Value} {bx1_0 : Nat} {F : List It} {I : IMem} {w : World} {r : Int}, Glob I → Own I w (.bk bx1_0 25 [vx1_0] :: F) → SlR (tInt' .u32) I vx0 x0 → SlR (tInt' .u32) I vx1_0 x1_0 → sI_122_w195.f k x0 x1_0 = some r →
    Calls Tryz.prog 122 #[vx0, .func (.func 95) #[] #[pt bx1_0]] w fun e w' => ∃ v, e = .returned v ∧ v = .int .i64 r ∧ Own I w' (.bk bx1_0 25 [vx1_0] :: F)
theorem sI_122_w195.ok (k : Nat) : sI_122_w195.C k := by
 intro x0 x1_0 vx0 vx1_0 bx1_0 F I w r hG S hx0 hx1_0 H
 have hI := ilr I
 rw [sI_122_w195.f] at H
 refine Calls.ofFW (args := [vx0, .func (.func 95) #[] #[pt bx1_0]]) Tryz.func122 rfl rfl <| sr <| mv (.int .i64 0) rfl <| sq <| sr <| mv vx0 rfl <| u rfl (x_lenD (r := (tInt' .u32)) tsl25 hx0) <| mv (.int .i64 0) rfl <| bk ?_
 obtain ⟨o5, hl7, HO6⟩ := obx H
 refine FW.cutX 0 (fun σ w => ∃ (J8 : IMem), (.inr ()) = o5 ∧ Has σ [] ∧ I.le J8 ∧ Own J8 w (.bk bx1_0 25 [vx1_0] :: F)) ?_ ?_
 ·refine FW.loop k (FL.ind (fun q σ w => ∃ (n2 : Int) (J1 : IMem), sI_122_w195.l0 q x0 x1_0 n2 = some o5 ∧ q ≤ k ∧ Has σ [(0, vx0), (1, .func (.func 95) #[] #[pt bx1_0]), (7, .int .i64 (x0.length : Int)), (8, .int .i64 n2)] ∧ I.le J1 ∧ Own J1 w (.bk bx1_0 25 [vx1_0] :: F)) ?_ ?_ k k _ _ (Nat.le_refl _) ⟨0, I, hl7, Nat.le_refl _, ⟨rfl, rfl, rfl, rfl, trivial⟩, (ilr _), S⟩)
  ·rintro σ w ⟨n2, J1, H, _⟩; cases H
  rintro q3 σ w ⟨n2, J1, H, hq9, hσ, hL4, S⟩
  have hx0 := hx0.mono hL4
  have hx1_0 := hx1_0.mono hL4
  have hI := hI.trans hL4
  have hG := hG.mono hL4
  rw [hσ.eq]
  rw [sI_122_w195.l0] at H
  refine sr <| u rfl (x_bin rfl rfl rfl) <| sq ?_
  by_cases cc10 : n2 < (x0.length : Int)
  ·rw [if_pos cc10] at H
   refine cT rfl (deT cc10) <| sk <| sq <| bk <| sr <| mv (.int .i64 n2) rfl <| mv (.int .i64 n2) rfl <| sr <| mv (.func (.func 95) #[] #[pt bx1_0]) rfl <| mv vx0 rfl <| mv (.int .i64 n2) rfl ?_
   obtain ⟨y11, h12, H⟩ := obx H
   refine g rfl (o_ia (r := (tInt' .u32)) tsl25 rfl rfl hx0 rfl h12 fun b13 o14 cs15 hr16 hc17 => ?_)
   obtain rfl := hr16
   refine u rfl (x_ld tsc23 rfl (S.cell _ _ _ (hc17 0 _ rfl))) ?_
   obtain ⟨y18, hy19, H⟩ := obx H
   refine g rfl (clv rfl fb95 (@filter_All_1.ok q3 y11 x1_0 _ _ _ _ _ _ hG S hx1_0 hy19) rfl ?_)
   rintro _ w ⟨rfl, S⟩
   by_cases cc20 : y18 = true
   ·rw [if_pos cc20] at H
    refine cT rfl cc20 <| sq <| FW.anew [(5, .int .i64 n2)] ⟨rfl, trivial⟩ fun σ => rg <| mv (.int .i64 n2) rfl <| mv (.int .i64 n2) rfl <| rt ?_
    obtain rfl := si H
    obtain rfl := si HO6
    exact ⟨_, ⟨_, rfl, rfl⟩, ⟨rfl, (S.weaken hI)⟩⟩
   rw [if_neg cc20] at H
   refine cF rfl (vaF cc20) <| sk <| FW.anew [(0, vx0), (1, .func (.func 95) #[] #[pt bx1_0]), (7, .int .i64 (x0.length : Int)), (8, .int .i64 n2)] ⟨rfl, rfl, rfl, rfl, trivial⟩ fun σ => rg <| u rfl (x_bin rfl rfl rfl) <| mv (.int .i64 (i64 (n2 + 1))) rfl ⟨q3, Nat.le_refl _, (i64 (n2 + 1)), J1, H, (Nat.le_of_succ_le hq9), ⟨rfl, rfl, rfl, rfl, trivial⟩, hL4, S⟩
  rw [if_neg cc10] at H
  refine cF rfl (deF cc10) <| ex ⟨J1, (si H), trivial, hL4, S⟩
 rintro σ w ⟨J8, ho, hσ, hL4, S⟩
 subst ho
 have H := HO6
 try dsimp only at H
 have hI := hI.trans hL4
 rw [hσ.eq]
 refine sr <| mv (.int .i64 (-1)) rfl <| rt ?_
 obtain rfl := si H
 exact ⟨_, ⟨_, rfl, rfl⟩, ⟨rfl, (S.weaken hI)⟩⟩
def sC_94_w195.f (k : Nat) (x0 : (List Int)) (x1_0 : (List Int)) : Option Bool := ((sI_122_w195.f k x0 x1_0).bind fun y1 => (some (decide (y1 ≥ 0))))
abbrev sC_94_w195.C (k : Nat) : Prop := ∀ {x0 : (List Int)} {x1_0 : (List Int)} {vx0 : Value} {vx1_0 : Value} {bx1_0 : Nat} {F : List It} {I : IMem} {w : World} {r : Bool}, Glob I → Own I w (.bk bx1_0 25 [vx1_0] :: F) → SlR (tInt' .u32) I vx0 x0 → SlR (tInt' .u32) I vx1_0 x1_0 → sC_94_w195.f k x0 x1_0 = some r →
    Calls Tryz.prog 94 #[vx0, .func (.func 95) #[] #[pt bx1_0]] w fun e w' => ∃ v, e = .returned v ∧ v = .bool r ∧ Own I w' (.bk bx1_0 25 [vx1_0] :: F)
theorem sC_94_w195.ok (k : Nat) : sC_94_w195.C k := by
 intro x0 x1_0 vx0 vx1_0 bx1_0 F I w r hG S hx0 hx1_0 H
 have hI := ilr I
 rw [sC_94_w195.f] at H
 refine Calls.ofFW (args := [vx0, .func (.func 95) #[] #[pt bx1_0]]) Tryz.func94 rfl rfl <| sr <| mv (.bool false) rfl <| sr <| mv vx0 rfl <| mv (.func (.func 95) #[] #[pt bx1_0]) rfl ?_
 obtain ⟨y1, hy2, H⟩ := obx H
 refine g rfl (cl fb122 (@sI_122_w195.ok k x0 x1_0 _ _ _ _ _ _ _ hG S hx0 hx1_0 hy2) rfl ?_)
 rintro _ w ⟨rfl, S⟩
 refine u rfl (x_bin rfl rfl rfl) <| mv (.bool (decide (y1 ≥ 0))) rfl <| rt ?_
 obtain rfl := si H
 exact ⟨_, ⟨_, rfl, rfl⟩, ⟨rfl, (S.weaken hI)⟩⟩
def filter_All.f (k : Nat) (x0 : (List Int)) (x1 : (List Int)) : Option Bool := ((sC_94_w195.f k x1 x0).bind fun y2 => (some (!y2)))
abbrev filter_All.C (k : Nat) : Prop := ∀ {x0 : (List Int)} {x1 : (List Int)} {vx0 : Value} {vx1 : Value} {F : List It} {I : IMem} {w : World} {r : Bool}, Glob I → Own I w (F) → SlR (tInt' .u32) I vx0 x0 → SlR (tInt' .u32) I vx1 x1 → filter_All.f k x0 x1 = some r →
    Calls Tryz.prog 52 #[vx0, vx1] w fun e w' => ∃ v, e = .returned v ∧ v = .bool r ∧ Own I w' (F)
theorem filter_All.ok (k : Nat) : filter_All.C k := by
 intro x0 x1 vx0 vx1 F I w r hG S hx0 hx1 H
 have hI := ilr I
 rw [filter_All.f] at H
 refine Calls.ofFW (args := [vx0, vx1]) Tryz.func52 rfl rfl <| sr <| g rfl (o_box hx0.one S fun b1 w S => mv (.bool false) rfl (sq (rg (mv vx1 rfl (u rfl (x_mkfL (l := [pt b1]) rfl) ?_)))))
 obtain ⟨y2, hy3, H⟩ := obx H
 refine g rfl (cl fb94 (@sC_94_w195.ok k x1 x0 _ _ _ _ _ _ _ hG S hx1 hx0 hy3) rfl ?_)
 rintro _ w ⟨rfl, S⟩
 refine u rfl (x_not' rfl) <| mv (.bool (!y2)) rfl <| rt ?_
 obtain rfl := si H
 exact ⟨_, ⟨_, rfl, rfl⟩, ⟨rfl, ((S.sel 1 [] rfl).weaken hI)⟩⟩
def aspath_Count.l0 : Nat → (List T_api_Segment) → Int → Int → Option Int
  | 0, _, _, _ => none
  | k + 1, x0, n2, n3 => (if n3 < (x0.length : Int) then ((lat x0 n3).bind fun y13 => (if y13.Kind = 1 then (aspath_Count.l0 k x0 (i64 (n2 + 1)) (i64 (n3 + 1))) else (aspath_Count.l0 k x0 (i64 (n2 + (y13.AS.length : Int))) (i64 (n3 + 1))))) else (some n2))
def aspath_Count.f (k : Nat) (x0 : (List T_api_Segment)) : Option Int := ((aspath_Count.l0 k x0 0 0).bind fun n10 => (some n10))
abbrev aspath_Count.C (k : Nat) : Prop := ∀ {x0 : (List T_api_Segment)} {vx0 : Value} {F : List It} {I : IMem} {w : World} {r : Int}, Glob I → Own I w (F) → SlR R_api_Segment I vx0 x0 → aspath_Count.f k x0 = some r →
    Calls Tryz.prog 53 #[vx0] w fun e w' => ∃ v, e = .returned v ∧ v = .int .i64 r ∧ Own I w' (F)
theorem aspath_Count.ok (k : Nat) : aspath_Count.C k := by
 intro x0 vx0 F I w r hG S hx0 H
 have hI := ilr I
 rw [aspath_Count.f] at H
 refine Calls.ofFW (args := [vx0]) Tryz.func53 rfl rfl <| sr <| mv (.int .i64 0) rfl <| sr <| mv (.int .i64 0) rfl <| sq <| sr <| mv vx0 rfl <| u rfl (x_lenD (r := R_api_Segment) tsl37 hx0) <| mv (.int .i64 0) rfl <| bk ?_
 obtain ⟨o6, hl8, HO7⟩ := obx H
 refine FW.cutX 0 (fun σ w => ∃ (n10 : Int) (J9 : IMem), n10 = o6 ∧ Has σ [(3, .int .i64 n10)] ∧ I.le J9 ∧ Own J9 w (F)) ?_ ?_
 ·refine FW.loop k (FL.ind (fun q σ w => ∃ (n2 : Int) (n3 : Int) (J1 : IMem), aspath_Count.l0 q x0 n2 n3 = some o6 ∧ q ≤ k ∧ Has σ [(3, .int .i64 n2), (6, vx0), (7, .int .i64 (x0.length : Int)), (8, .int .i64 n3)] ∧ I.le J1 ∧ Own J1 w (F)) ?_ ?_ k k _ _ (Nat.le_refl _) ⟨0, 0, I, hl8, Nat.le_refl _, ⟨rfl, rfl, rfl, rfl, trivial⟩, (ilr _), S⟩)
  ·rintro σ w ⟨n2, n3, J1, H, _⟩; cases H
  rintro q4 σ w ⟨n2, n3, J1, H, hq11, hσ, hL5, S⟩
  have hx0 := hx0.mono hL5
  rw [hσ.eq]
  rw [aspath_Count.l0] at H
  refine sr <| u rfl (x_bin rfl rfl rfl) <| sq ?_
  by_cases cc12 : n3 < (x0.length : Int)
  ·rw [if_pos cc12] at H
   refine cT rfl (deT cc12) <| sk <| sq <| bk <| sq <| rg ?_
   obtain ⟨y13, h14, H⟩ := obx H
   refine g rfl (o_ia (r := R_api_Segment) tsl37 rfl rfl hx0 rfl h14 fun b15 o16 cs17 hr18 hc19 => ?_)
   obtain ⟨y13v1, rfl, y13h1⟩ := hr18
   refine u rfl (x_ldA tag88 rfl (S.loadI hc19) rfl) <| g rfl (o_all tz88 S fun b20 w S => g rfl (o_stA tag88 S 0 rfl rfl rfl rfl (c1 rfl (c1 y13h1.one c0)) rfl fun w S => sq (rg (u rfl (x_fa tf88_0 rfl) (u rfl (x_ld tsc3 rfl (S.load 0 rfl 0 rfl)) (u rfl (x_bin rfl rfl rfl) ?_))))))
   by_cases cc21 : y13.Kind = 1
   ·rw [if_pos cc21] at H
    refine cT rfl (eqT cc21) <| FW.anew [(3, .int .i64 n2), (6, vx0), (7, .int .i64 (x0.length : Int)), (8, .int .i64 n3)] ⟨rfl, rfl, rfl, rfl, trivial⟩ fun σ => rg <| mv (.int .i64 n2) rfl <| u rfl (x_bin rfl rfl rfl) <| mv (.int .i64 (i64 (n2 + 1))) rfl <| rg <| u rfl (x_bin rfl rfl rfl) <| mv (.int .i64 (i64 (n3 + 1))) rfl ⟨q4, Nat.le_refl _, (i64 (n2 + 1)), (i64 (n3 + 1)), J1, H, (Nat.le_of_succ_le hq11), ⟨rfl, rfl, rfl, rfl, trivial⟩, hL5, (S.sel 1 [] rfl)⟩
   rw [if_neg cc21] at H
   refine cF rfl (eqF cc21) <| FW.anew [(3, .int .i64 n2), (5, pt b20), (6, vx0), (7, .int .i64 (x0.length : Int)), (8, .int .i64 n3)] ⟨rfl, rfl, rfl, rfl, rfl, trivial⟩ fun σ => rg <| mv (.int .i64 n2) rfl <| u rfl (x_fa tf88_1 rfl) <| u rfl (x_ld tsc25 rfl (S.load 0 rfl 1 rfl)) <| u rfl (x_lenD (r := (tInt' .u32)) tsl25 y13h1) <| u rfl (x_bin rfl rfl rfl) <| mv (.int .i64 (i64 (n2 + (y13.AS.length : Int)))) rfl <| rg <| u rfl (x_bin rfl rfl rfl) <| mv (.int .i64 (i64 (n3 + 1))) rfl ⟨q4, Nat.le_refl _, (i64 (n2 + (y13.AS.length : Int))), (i64 (n3 + 1)), J1, H, (Nat.le_of_succ_le hq11), ⟨rfl, rfl, rfl, rfl, trivial⟩, hL5, (S.sel 1 [] rfl)⟩
  rw [if_neg cc12] at H
  refine cF rfl (deF cc12) <| ex ⟨n2, J1, (si H), ⟨rfl, trivial⟩, hL5, S⟩
 rintro σ w ⟨n10, J9, ho, hσ, hL5, S⟩
 subst ho
 have H := HO7
 have hI := hI.trans hL5
 rw [hσ.eq]
 refine sr <| mv (.int .i64 n10) rfl <| mv (.int .i64 n10) rfl <| rt ?_
 obtain rfl := si H
 exact ⟨_, ⟨_, rfl, rfl⟩, ⟨rfl, (S.weaken hI)⟩⟩
def policy_Holds.f (k : Nat) (x0 : T_api_Cond) (x1 : T_api_Prefix) (x2 : T_api_Attrs) : Option Bool := (if x0.Kind = 0 then (some (!(true == x0.Not))) else (if x0.Kind = 1 then ((filter_Any.f k x0.Range x1).bind fun y6 => (some (!(y6 == x0.Not)))) else (if x0.Kind = 2 then ((regex_Parse.f k x0.Text).bind fun y9 => ((aspath_Flat.f k x2.Path).bind fun y13 => ((regex_Expr_Match.f k y9.1 y13).bind fun y17 => (some (!(y17 == x0.Not)))))) else (if x0.Kind = 3 then ((filter_All.f k x2.Comms x0.Comms).bind fun y20 => (some (!(y20 == x0.Not)))) else (if x0.Kind = 4 then ((aspath_Count.f k x2.Path).bind fun y24 => (some (!((decide (y24 > x0.Num)) == x0.Not)))) else (if x0.Kind = 5 then (some (!((x2.Next == x0.Addr) == x0.Not))) else (if x0.Kind = 6 then (some (!((x2.Origin == x0.Num) == x0.Not))) else (some (!(false == x0.Not))))))))))
abbrev policy_Holds.C (k : Nat) : Prop := ∀ {x0 : T_api_Cond} {x1 : T_api_Prefix} {x2 : T_api_Attrs} {x0v5 : Value} {x0v6 : Value} {x2v1 : Value} {x2v9 : Value} {x2v10 : Value} {F : List It} {I : IMem} {w : World} {r : Bool}, Glob I → Own I w (F) → SlR R_api_Range I x0v5 x0.Range → SlR (tInt' .u32) I x0v6 x0.Comms → SlR R_api_Segment I x2v1 x2.Path → SlR (tInt' .u32) I x2v9 x2.Comms → SlR R_api_Raw I x2v10 x2.Raws → policy_Holds.f k x0 x1 x2 = some r →
    Calls Tryz.prog 20 #[.agg #[.int .i64 x0.Kind, .bool x0.Not, .int .i64 x0.Num, .int .u32 x0.Addr, .string x0.Text, x0v5, x0v6], .agg #[.int .u32 x1.Addr, .int .i64 x1.Len], .agg #[.int .i64 x2.Origin, x2v1, .int .u32 x2.Next, .int .i64 x2.Med, .int .i64 x2.Pref, .bool x2.Atomic, .bool x2.HasAggr, .int .u32 x2.AggrAS, .int .u32 x2.AggrAddr, x2v9, x2v10]] w fun e w' => ∃ v, e = .returned v ∧ v = .bool r ∧ Own I w' (F)
theorem policy_Holds.ok (k : Nat) : policy_Holds.C k := by
 intro x0 x1 x2 x0v5 x0v6 x2v1 x2v9 x2v10 F I w r hG S x0h5 x0h6 x2h1 x2h9 x2h10 H
 have hI := ilr I
 rw [policy_Holds.f] at H
 refine Calls.ofFW (args := [.agg #[.int .i64 x0.Kind, .bool x0.Not, .int .i64 x0.Num, .int .u32 x0.Addr, .string x0.Text, x0v5, x0v6], .agg #[.int .u32 x1.Addr, .int .i64 x1.Len], .agg #[.int .i64 x2.Origin, x2v1, .int .u32 x2.Next, .int .i64 x2.Med, .int .i64 x2.Pref, .bool x2.Atomic, .bool x2.HasAggr, .int .u32 x2.AggrAS, .int .u32 x2.AggrAddr, x2v9, x2v10]]) Tryz.func20 rfl rfl <| sr <| g rfl (o_boxA rfl S fun b1 w S => g rfl (o_boxA rfl S fun b2 w S => g rfl (o_boxA rfl S fun b3 w S => mv (.bool false) rfl (sq (rg (mv (.bool false) rfl (sq (sq (rg (u rfl (x_fa tf27_0 rfl) (u rfl (x_ld tsc3 rfl (S.load 2 rfl 0 rfl)) (bk (sq (FW.anew [(3, pt b1), (4, pt b2), (5, pt b3), (7, .bool false), (11, .int .i64 x0.Kind)] ⟨rfl, rfl, rfl, rfl, rfl, trivial⟩ fun σ => rg (u rfl (x_bin rfl rfl rfl) (mv (.bool (x0.Kind == 0)) rfl ?_))))))))))))))))
 by_cases cc4 : x0.Kind = 0
 ·rw [if_pos cc4] at H
  refine cT rfl (eqT cc4) <| rg <| mv (.bool true) rfl <| sr <| mv (.bool true) rfl <| u rfl (x_fa tf27_1 rfl) <| u rfl (x_ld tsc4 rfl (S.load 2 rfl 1 rfl)) <| u rfl (x_bne tbool4 rfl rfl) <| mv (.bool (!(true == x0.Not))) rfl <| rt ?_
  obtain rfl := si H
  exact ⟨_, ⟨_, rfl, rfl⟩, ⟨rfl, ((S.sel 3 [] rfl).weaken hI)⟩⟩
 rw [if_neg cc4] at H
 refine cF rfl (eqF cc4) <| sr <| u rfl (x_bin rfl rfl rfl) <| mv (.bool (x0.Kind == 1)) rfl ?_
 by_cases cc5 : x0.Kind = 1
 ·rw [if_pos cc5] at H
  refine cT rfl (eqT cc5) <| rg <| u rfl (x_fa tf27_5 rfl) <| u rfl (x_ld tsc24 rfl (S.load 2 rfl 5 rfl)) <| u rfl (x_ldA tag36 rfl (S.loadW 1 rfl) rfl) ?_
  obtain ⟨y6, hy7, H⟩ := obx H
  refine g rfl (cl fb49 (@filter_Any.ok k x0.Range x1 _ _ _ _ _ hG S x0h5 hy7) rfl ?_)
  rintro _ w ⟨rfl, S⟩
  refine mv (.bool y6) rfl <| sq <| FW.anew [(3, pt b1), (7, .bool y6)] ⟨rfl, rfl, trivial⟩ fun σ => rg <| mv (.bool y6) rfl <| u rfl (x_fa tf27_1 rfl) <| u rfl (x_ld tsc4 rfl (S.load 2 rfl 1 rfl)) <| u rfl (x_bne tbool4 rfl rfl) <| mv (.bool (!(y6 == x0.Not))) rfl <| rt ?_
  obtain rfl := si H
  exact ⟨_, ⟨_, rfl, rfl⟩, ⟨rfl, ((S.sel 3 [] rfl).weaken hI)⟩⟩
 rw [if_neg cc5] at H
 refine cF rfl (eqF cc5) <| sr <| u rfl (x_bin rfl rfl rfl) <| mv (.bool (x0.Kind == 2)) rfl ?_
 by_cases cc8 : x0.Kind = 2
 ·rw [if_pos cc8] at H
  refine cT rfl (eqT cc8) <| sr <| u rfl (x_fa tf27_4 rfl) <| u rfl (x_ld tsc9 rfl (S.load 2 rfl 4 rfl)) ?_
  obtain ⟨y9, hy10, H⟩ := obx H
  refine g rfl (cl fb43 (@regex_Parse.ok k x0.Text _ _ _ _ hG S hy10) rfl ?_)
  rintro _ w ⟨vy9_0, J11, hJ12, rfl, hy9_0, S⟩
  have x2h1 := x2h1.mono hJ12
  have hI := hI.trans hJ12
  have hG := hG.mono hJ12
  refine mv (.tuple #[vy9_0, .int .i64 y9.2]) rfl <| u rfl (x_ext rfl rfl) <| u rfl (x_ext rfl rfl) <| mv vy9_0 rfl <| mv (.int .i64 y9.2) rfl <| FW.anew [(3, pt b1), (5, pt b3), (8, vy9_0)] ⟨rfl, rfl, rfl, trivial⟩ fun σ => rg <| mv vy9_0 rfl <| u rfl (x_fa tf40_1 rfl) <| u rfl (x_ld tsc37 rfl (S.load 0 rfl 1 rfl)) ?_
  obtain ⟨y13, hy14, H⟩ := obx H
  refine g rfl (cl fb51 (@aspath_Flat.ok k x2.Path _ _ _ _ _ hG S x2h1 hy14) rfl ?_)
  rintro vy13_0 w ⟨vy13_0q, J15, hJ16, rfl, hy13_0, S⟩
  have hy9_0 := hy9_0.mono hJ16
  have hI := hI.trans hJ16
  have hG := hG.mono hJ16
  obtain ⟨y17, hy18, H⟩ := obx H
  refine g rfl (cl fb50 (@regex_Expr_Match.ok k y9.1 y13 _ _ _ _ _ _ hG S hy9_0 hy13_0 hy18) rfl ?_)
  rintro _ w ⟨rfl, S⟩
  refine mv (.bool y17) rfl <| sr <| mv (.bool y17) rfl <| u rfl (x_fa tf27_1 rfl) <| u rfl (x_ld tsc4 rfl (S.load 3 rfl 1 rfl)) <| u rfl (x_bne tbool4 rfl rfl) <| mv (.bool (!(y17 == x0.Not))) rfl <| rt ?_
  obtain rfl := si H
  exact ⟨_, ⟨_, rfl, rfl⟩, ⟨rfl, ((S.sel 4 [] rfl).weaken hI)⟩⟩
 rw [if_neg cc8] at H
 refine cF rfl (eqF cc8) <| sr <| u rfl (x_bin rfl rfl rfl) <| mv (.bool (x0.Kind == 3)) rfl ?_
 by_cases cc19 : x0.Kind = 3
 ·rw [if_pos cc19] at H
  refine cT rfl (eqT cc19) <| FW.anew [(3, pt b1), (5, pt b3)] ⟨rfl, rfl, trivial⟩ fun σ => rg <| u rfl (x_fa tf40_9 rfl) <| u rfl (x_ld tsc25 rfl (S.load 0 rfl 9 rfl)) <| u rfl (x_fa tf27_6 rfl) <| u rfl (x_ld tsc25 rfl (S.load 2 rfl 6 rfl)) ?_
  obtain ⟨y20, hy21, H⟩ := obx H
  refine g rfl (cl fb52 (@filter_All.ok k x2.Comms x0.Comms _ _ _ _ _ _ hG S x2h9 x0h6 hy21) rfl ?_)
  rintro _ w ⟨rfl, S⟩
  refine mv (.bool y20) rfl <| sr <| mv (.bool y20) rfl <| u rfl (x_fa tf27_1 rfl) <| u rfl (x_ld tsc4 rfl (S.load 2 rfl 1 rfl)) <| u rfl (x_bne tbool4 rfl rfl) <| mv (.bool (!(y20 == x0.Not))) rfl <| rt ?_
  obtain rfl := si H
  exact ⟨_, ⟨_, rfl, rfl⟩, ⟨rfl, ((S.sel 3 [] rfl).weaken hI)⟩⟩
 rw [if_neg cc19] at H
 refine cF rfl (eqF cc19) <| sq <| FW.anew [(3, pt b1), (5, pt b3), (7, .bool false), (11, .int .i64 x0.Kind)] ⟨rfl, rfl, rfl, rfl, trivial⟩ fun σ => rg <| u rfl (x_bin rfl rfl rfl) <| mv (.bool (x0.Kind == 4)) rfl ?_
 by_cases cc22 : x0.Kind = 4
 ·rw [if_pos cc22] at H
  refine cT rfl (eqT cc22) ?_
  have S := S.drew
  refine FW.regionD mixed ?_
  have hO := Hold.nil (w := { w with drawn := w.drawn + 1 })
  refine ap 0 rfl (by kernel_rfl) hO (fun w => x_fa tf40_1 rfl) ?_
  have hR23 := ilr I
  refine ak (Stab I [.bk b3 40 [.int .i64 x2.Origin, x2v1, .int .u32 x2.Next, .int .i64 x2.Med, .int .i64 x2.Pref, .bool x2.Atomic, .bool x2.HasAggr, .int .u32 x2.AggrAS, .int .u32 x2.AggrAddr, x2v9, x2v10]]) 1 rfl (by kernel_rfl) hO (Stab.of S 0 rfl hR23) (fun w hS => x_ld tsc37 rfl (hS.load 0 rfl 1 rfl)) fun hO => ap 3 rfl (by kernel_rfl) hO (fun w => x_fa tf27_2 rfl) <| ak (Stab I [.bk b1 27 [.int .i64 x0.Kind, .bool x0.Not, .int .i64 x0.Num, .int .u32 x0.Addr, .string x0.Text, x0v5, x0v6]]) 4 rfl (by kernel_rfl) hO (Stab.of S 2 rfl hR23) (fun w hS => x_ld tsc3 rfl (hS.load 0 rfl 2 rfl)) fun hO => AQ.one 2 [4, 1] [true, false] (by kernel_rfl) rfl (by kernel_rfl) ?_
  obtain ⟨y24, hy25, H⟩ := obx H
  refine g rfl (cl fb53 (@aspath_Count.ok k x2.Path _ _ _ _ _ hG S x2h1 hy25) rfl ?_)
  rintro _ w ⟨rfl, S⟩
  refine andI (Hold.cons (Stab.of S 2 rfl hR23) Hold.nil) fun hO => ap 5 rfl (by kernel_rfl) hO (fun w => x_bin rfl rfl rfl) <| ap 6 rfl (by kernel_rfl) hO (fun w => x_asgV (v := .bool (decide (y24 > x0.Num))) rfl) <| AQ.done (by kernel_rfl) <| sq <| FW.anew [(3, pt b1), (7, .bool (decide (y24 > x0.Num)))] ⟨rfl, rfl, trivial⟩ fun σ => rg <| mv (.bool (decide (y24 > x0.Num))) rfl <| u rfl (x_fa tf27_1 rfl) <| u rfl (x_ld tsc4 rfl (S.load 2 rfl 1 rfl)) <| u rfl (x_bne tbool4 rfl rfl) <| mv (.bool (!((decide (y24 > x0.Num)) == x0.Not))) rfl <| rt ?_
  obtain rfl := si H
  exact ⟨_, ⟨_, rfl, rfl⟩, ⟨rfl, ((S.sel 3 [] rfl).weaken hI)⟩⟩
 rw [if_neg cc22] at H
 refine cF rfl (eqF cc22) <| sr <| u rfl (x_bin rfl rfl rfl) <| mv (.bool (x0.Kind == 5)) rfl ?_
 by_cases cc26 : x0.Kind = 5
 ·rw [if_pos cc26] at H
  refine cT rfl (eqT cc26) <| rg <| u rfl (x_fa tf40_2 rfl) <| u rfl (x_ld tsc23 rfl (S.load 0 rfl 2 rfl)) <| u rfl (x_fa tf27_3 rfl) <| u rfl (x_ld tsc23 rfl (S.load 2 rfl 3 rfl)) <| u rfl (x_bin rfl rfl rfl) <| mv (.bool (x2.Next == x0.Addr)) rfl <| sq <| FW.anew [(3, pt b1), (7, .bool (x2.Next == x0.Addr))] ⟨rfl, rfl, trivial⟩ fun σ => rg <| mv (.bool (x2.Next == x0.Addr)) rfl <| u rfl (x_fa tf27_1 rfl) <| u rfl (x_ld tsc4 rfl (S.load 2 rfl 1 rfl)) <| u rfl (x_bne tbool4 rfl rfl) <| mv (.bool (!((x2.Next == x0.Addr) == x0.Not))) rfl <| rt ?_
  obtain rfl := si H
  exact ⟨_, ⟨_, rfl, rfl⟩, ⟨rfl, ((S.sel 3 [] rfl).weaken hI)⟩⟩
 rw [if_neg cc26] at H
 refine cF rfl (eqF cc26) <| sr <| u rfl (x_bin rfl rfl rfl) <| mv (.bool (x0.Kind == 6)) rfl ?_
 by_cases cc27 : x0.Kind = 6
 ·rw [if_pos cc27] at H
  refine cT rfl (eqT cc27) <| rg <| u rfl (x_fa tf40_0 rfl) <| u rfl (x_ld tsc3 rfl (S.load 0 rfl 0 rfl)) <| u rfl (x_fa tf27_2 rfl) <| u rfl (x_ld tsc3 rfl (S.load 2 rfl 2 rfl)) <| u rfl (x_bin rfl rfl rfl) <| mv (.bool (x2.Origin == x0.Num)) rfl <| sq <| FW.anew [(3, pt b1), (7, .bool (x2.Origin == x0.Num))] ⟨rfl, rfl, trivial⟩ fun σ => rg <| mv (.bool (x2.Origin == x0.Num)) rfl <| u rfl (x_fa tf27_1 rfl) <| u rfl (x_ld tsc4 rfl (S.load 2 rfl 1 rfl)) <| u rfl (x_bne tbool4 rfl rfl) <| mv (.bool (!((x2.Origin == x0.Num) == x0.Not))) rfl <| rt ?_
  obtain rfl := si H
  exact ⟨_, ⟨_, rfl, rfl⟩, ⟨rfl, ((S.sel 3 [] rfl).weaken hI)⟩⟩
 rw [if_neg cc27] at H
 refine cF rfl (eqF cc27) <| sk <| sr <| mv (.bool false) rfl <| u rfl (x_fa tf27_1 rfl) <| u rfl (x_ld tsc4 rfl (S.load 2 rfl 1 rfl)) <| u rfl (x_bne tbool4 rfl rfl) <| mv (.bool (!(false == x0.Not))) rfl <| rt ?_
 obtain rfl := si H
 exact ⟨_, ⟨_, rfl, rfl⟩, ⟨rfl, ((S.sel 3 [] rfl).weaken hI)⟩⟩
def policy_prepend.f (_ : Nat) (_ : (List T_api_Segment)) (_ : Int) (_ : Int) : Option (List T_api_Segment) := none
abbrev policy_prepend.C (k : Nat) : Prop := ∀ {x0 : (List T_api_Segment)} {x1 : Int} {x2 : Int} {vx0 : Value} {F : List It} {I : IMem} {w : World} {r : (List T_api_Segment)}, Glob I → Own I w (F) → SlR R_api_Segment I vx0 x0 → policy_prepend.f k x0 x1 x2 = some r →
    Calls Tryz.prog 99 #[vx0, .int .u32 x1, .int .i64 x2] w fun e w' => ∃ v, e = .returned v ∧ ∃ (vy_0 : Value) (J : IMem), I.le J ∧ v = vy_0 ∧ SlR R_api_Segment J vy_0 r ∧ Own J w' (F)
theorem policy_prepend.ok (k : Nat) : policy_prepend.C k := by
  intro _ _ _ _ _ _ _ _ _ _ _ H
  unfold policy_prepend.f at H
  cases H
def filter_Add.f (_ : Nat) (_ : (List Int)) (_ : Int) : Option (List Int) := none
abbrev filter_Add.C (k : Nat) : Prop := ∀ {x0 : (List Int)} {x1 : Int} {vx0 : Value} {F : List It} {I : IMem} {w : World} {r : (List Int)}, Glob I → Own I w (F) → SlR (tInt' .u32) I vx0 x0 → filter_Add.f k x0 x1 = some r →
    Calls Tryz.prog 100 #[vx0, .int .u32 x1] w fun e w' => ∃ v, e = .returned v ∧ ∃ (vy_0 : Value) (J : IMem), I.le J ∧ v = vy_0 ∧ SlR (tInt' .u32) J vy_0 r ∧ Own J w' (F)
theorem filter_Add.ok (k : Nat) : filter_Add.C k := by
  intro _ _ _ _ _ _ _ _ _ _ H
  unfold filter_Add.f at H
  cases H
def filter_Drop.f (_ : Nat) (_ : (List Int)) (_ : Int) : Option (List Int) := none
abbrev filter_Drop.C (k : Nat) : Prop := ∀ {x0 : (List Int)} {x1 : Int} {vx0 : Value} {F : List It} {I : IMem} {w : World} {r : (List Int)}, Glob I → Own I w (F) → SlR (tInt' .u32) I vx0 x0 → filter_Drop.f k x0 x1 = some r →
    Calls Tryz.prog 101 #[vx0, .int .u32 x1] w fun e w' => ∃ v, e = .returned v ∧ ∃ (vy_0 : Value) (J : IMem), I.le J ∧ v = vy_0 ∧ SlR (tInt' .u32) J vy_0 r ∧ Own J w' (F)
theorem filter_Drop.ok (k : Nat) : filter_Drop.C k := by
  intro _ _ _ _ _ _ _ _ _ _ H
  unfold filter_Drop.f at H
  cases H
end Go.Proofs.YtafnenafbognkaaGreatDoor
namespace Go.Proofs.YtafnenafbognkaaGreatDoor
open Sp
set_option maxRecDepth 100000
set_option maxHeartbeats 4000000
def policy_Do.f (k : Nat) (x0 : T_api_Deed) (x1 : T_api_Attrs) : Option T_api_Attrs := ((policy_RightDeed.f k x0).bind fun y4 => (if y4 = true then (if x0.Kind = 1 then (some (T_api_Attrs.mk x1.Origin x1.Path x1.Next x1.Med x0.Num x1.Atomic x1.HasAggr x1.AggrAS x1.AggrAddr x1.Comms x1.Raws)) else (if x0.Kind = 2 then (some (T_api_Attrs.mk x1.Origin x1.Path x1.Next x0.Num x1.Pref x1.Atomic x1.HasAggr x1.AggrAS x1.AggrAddr x1.Comms x1.Raws)) else (if x0.Kind = 3 then ((policy_prepend.f k x1.Path x0.Addr x0.Num).bind fun y10 => (some (T_api_Attrs.mk x1.Origin y10 x1.Next x1.Med x1.Pref x1.Atomic x1.HasAggr x1.AggrAS x1.AggrAddr x1.Comms x1.Raws))) else (if x0.Kind = 4 then ((filter_Add.f k x1.Comms x0.Addr).bind fun y15 => (some (T_api_Attrs.mk x1.Origin x1.Path x1.Next x1.Med x1.Pref x1.Atomic x1.HasAggr x1.AggrAS x1.AggrAddr y15 x1.Raws))) else (if x0.Kind = 5 then ((filter_Drop.f k x1.Comms x0.Addr).bind fun y20 => (some (T_api_Attrs.mk x1.Origin x1.Path x1.Next x1.Med x1.Pref x1.Atomic x1.HasAggr x1.AggrAS x1.AggrAddr y20 x1.Raws))) else (if x0.Kind = 6 then (some (T_api_Attrs.mk x1.Origin x1.Path x0.Addr x1.Med x1.Pref x1.Atomic x1.HasAggr x1.AggrAS x1.AggrAddr x1.Comms x1.Raws)) else (if x0.Kind = 7 then (some (T_api_Attrs.mk x1.Origin x1.Path x1.Next x1.Med x1.Pref x1.Atomic x1.HasAggr x1.AggrAS x1.AggrAddr [] x1.Raws)) else (some x1)))))))) else (some x1)))
abbrev policy_Do.C (k : Nat) : Prop := ∀ {x0 : T_api_Deed} {x1 : T_api_Attrs} {x1v1 : Value} {x1v9 : Value} {x1v10 : Value} {F : List It} {I : IMem} {w : World} {r : T_api_Attrs}, Glob I → Own I w (F) → SlR R_api_Segment I x1v1 x1.Path → SlR (tInt' .u32) I x1v9 x1.Comms → SlR R_api_Raw I x1v10 x1.Raws → policy_Do.f k x0 x1 = some r →
    Calls Tryz.prog 58 #[.agg #[.int .i64 x0.Kind, .int .i64 x0.Num, .int .u32 x0.Addr], .agg #[.int .i64 x1.Origin, x1v1, .int .u32 x1.Next, .int .i64 x1.Med, .int .i64 x1.Pref, .bool x1.Atomic, .bool x1.HasAggr, .int .u32 x1.AggrAS, .int .u32 x1.AggrAddr, x1v9, x1v10]] w fun e w' => ∃ v, e = .returned v ∧ ∃ (y_0v1 : Value) (y_0v9 : Value) (y_0v10 : Value) (J : IMem), I.le J ∧ v = .agg #[.int .i64 r.Origin, y_0v1, .int .u32 r.Next, .int .i64 r.Med, .int .i64 r.Pref, .bool r.Atomic, .bool r.HasAggr, .int .u32 r.AggrAS, .int .u32 r.AggrAddr, y_0v9, y_0v10] ∧ SlR R_api_Segment J y_0v1 r.Path ∧ SlR (tInt' .u32) J y_0v9 r.Comms ∧ SlR R_api_Raw J y_0v10 r.Raws ∧ Own J w' (F)
theorem policy_Do.ok (k : Nat) : policy_Do.C k := by
 intro x0 x1 x1v1 x1v9 x1v10 F I w r hG S x1h1 x1h9 x1h10 H
 have hI := ilr I
 rw [policy_Do.f] at H
 refine Calls.ofFW (args := [.agg #[.int .i64 x0.Kind, .int .i64 x0.Num, .int .u32 x0.Addr], .agg #[.int .i64 x1.Origin, x1v1, .int .u32 x1.Next, .int .i64 x1.Med, .int .i64 x1.Pref, .bool x1.Atomic, .bool x1.HasAggr, .int .u32 x1.AggrAS, .int .u32 x1.AggrAddr, x1v9, x1v10]]) Tryz.func58 rfl rfl <| sr <| g rfl (o_boxA rfl S fun b1 w S => g rfl (o_boxA rfl S fun b2 w S => g rfl (o_all tz40 S fun b3 w S => sq (sq (rg (u rfl (x_ldA tag29 rfl (S.loadW 2 rfl) rfl) ?_))))))
 obtain ⟨y4, hy5, H⟩ := obx H
 refine g rfl (cl fb16 (@policy_RightDeed.ok k x0 _ _ _ _ hG S hy5) rfl ?_)
 rintro _ w ⟨rfl, S⟩
 refine u rfl (x_not' rfl) ?_
 by_cases cc6 : y4 = true
 ·rw [if_pos cc6] at H
  refine cF rfl (noF cc6) <| sk <| sq <| sr <| u rfl (x_fa tf29_0 rfl) <| u rfl (x_ld tsc3 rfl (S.load 2 rfl 0 rfl)) <| bk <| sq <| FW.anew [(2, pt b1), (3, pt b2), (4, pt b3), (10, .int .i64 x0.Kind)] ⟨rfl, rfl, rfl, rfl, trivial⟩ fun σ => rg <| u rfl (x_bin rfl rfl rfl) <| mv (.bool (x0.Kind == 1)) rfl ?_
  by_cases cc7 : x0.Kind = 1
  ·rw [if_pos cc7] at H
   refine cT rfl (eqT cc7) <| rg <| u rfl (x_fa tf29_1 rfl) <| u rfl (x_ld tsc3 rfl (S.load 2 rfl 1 rfl)) <| u rfl (x_fa tf40_4 rfl) <| g rfl (o_st tone3 S 1 rfl rfl rfl rfl fun w S => sq (rg (u rfl (x_ldA tag40 rfl (S.loadW 1 rfl) rfl) (g rfl (o_stA tag40 S 0 rfl rfl rfl rfl (c1 rfl (c1 x1h1.one (c1 rfl (c1 rfl (c1 rfl (c1 rfl (c1 rfl (c1 rfl (c1 rfl (c1 x1h9.one (c1 x1h10.one c0))))))))))) rfl fun w S => rt ?_)))))
   obtain rfl := si H
   exact ⟨_, ⟨_, _, _, rfl, rfl, ldA tag40 (S.loadW 0 rfl) rfl, rfl⟩, ⟨x1v1, x1v9, x1v10, I, hI, rfl, x1h1, x1h9, x1h10, (S.sel 3 [] rfl)⟩⟩
  rw [if_neg cc7] at H
  refine cF rfl (eqF cc7) <| sr <| u rfl (x_bin rfl rfl rfl) <| mv (.bool (x0.Kind == 2)) rfl ?_
  by_cases cc8 : x0.Kind = 2
  ·rw [if_pos cc8] at H
   refine cT rfl (eqT cc8) <| rg <| u rfl (x_fa tf29_1 rfl) <| u rfl (x_ld tsc3 rfl (S.load 2 rfl 1 rfl)) <| u rfl (x_fa tf40_3 rfl) <| g rfl (o_st tone3 S 1 rfl rfl rfl rfl fun w S => sq (FW.anew [(3, pt b2), (4, pt b3)] ⟨rfl, rfl, trivial⟩ fun σ => rg (u rfl (x_ldA tag40 rfl (S.loadW 1 rfl) rfl) (g rfl (o_stA tag40 S 0 rfl rfl rfl rfl (c1 rfl (c1 x1h1.one (c1 rfl (c1 rfl (c1 rfl (c1 rfl (c1 rfl (c1 rfl (c1 rfl (c1 x1h9.one (c1 x1h10.one c0))))))))))) rfl fun w S => rt ?_)))))
   obtain rfl := si H
   exact ⟨_, ⟨_, _, _, rfl, rfl, ldA tag40 (S.loadW 0 rfl) rfl, rfl⟩, ⟨x1v1, x1v9, x1v10, I, hI, rfl, x1h1, x1h9, x1h10, (S.sel 3 [] rfl)⟩⟩
  rw [if_neg cc8] at H
  refine cF rfl (eqF cc8) <| sr <| u rfl (x_bin rfl rfl rfl) <| mv (.bool (x0.Kind == 3)) rfl ?_
  by_cases cc9 : x0.Kind = 3
  ·rw [if_pos cc9] at H
   refine cT rfl (eqT cc9) <| rg <| u rfl (x_fa tf40_1 rfl) <| u rfl (x_ld tsc37 rfl (S.load 1 rfl 1 rfl)) <| u rfl (x_fa tf29_2 rfl) <| u rfl (x_ld tsc23 rfl (S.load 2 rfl 2 rfl)) <| u rfl (x_fa tf29_1 rfl) <| u rfl (x_ld tsc3 rfl (S.load 2 rfl 1 rfl)) ?_
   obtain ⟨y10, hy11, H⟩ := obx H
   refine g rfl (cl fb99 (@policy_prepend.ok k x1.Path x0.Addr x0.Num _ _ _ _ _ hG S x1h1 hy11) rfl ?_)
   rintro vy10_0 w ⟨vy10_0q, J12, hJ13, rfl, hy10_0, S⟩
   have x1h9 := x1h9.mono hJ13
   have x1h10 := x1h10.mono hJ13
   have hI := hI.trans hJ13
   refine u rfl (x_fa tf40_1 rfl) <| g rfl (o_st tone37 S 1 rfl rfl rfl hy10_0.one fun w S => sq (FW.anew [(3, pt b2), (4, pt b3)] ⟨rfl, rfl, trivial⟩ fun σ => rg (u rfl (x_ldA tag40 rfl (S.loadW 1 rfl) rfl) (g rfl (o_stA tag40 S 0 rfl rfl rfl rfl (c1 rfl (c1 hy10_0.one (c1 rfl (c1 rfl (c1 rfl (c1 rfl (c1 rfl (c1 rfl (c1 rfl (c1 x1h9.one (c1 x1h10.one c0))))))))))) rfl fun w S => rt ?_)))))
   obtain rfl := si H
   exact ⟨_, ⟨_, _, _, rfl, rfl, ldA tag40 (S.loadW 0 rfl) rfl, rfl⟩, ⟨vy10_0, x1v9, x1v10, J12, hI, rfl, hy10_0, x1h9, x1h10, (S.sel 3 [] rfl)⟩⟩
  rw [if_neg cc9] at H
  refine cF rfl (eqF cc9) <| sr <| u rfl (x_bin rfl rfl rfl) <| mv (.bool (x0.Kind == 4)) rfl ?_
  by_cases cc14 : x0.Kind = 4
  ·rw [if_pos cc14] at H
   refine cT rfl (eqT cc14) <| FW.anew [(2, pt b1), (3, pt b2), (4, pt b3)] ⟨rfl, rfl, rfl, trivial⟩ fun σ => rg <| u rfl (x_fa tf40_9 rfl) <| u rfl (x_ld tsc25 rfl (S.load 1 rfl 9 rfl)) <| u rfl (x_fa tf29_2 rfl) <| u rfl (x_ld tsc23 rfl (S.load 2 rfl 2 rfl)) ?_
   obtain ⟨y15, hy16, H⟩ := obx H
   refine g rfl (cl fb100 (@filter_Add.ok k x1.Comms x0.Addr _ _ _ _ _ hG S x1h9 hy16) rfl ?_)
   rintro vy15_0 w ⟨vy15_0q, J17, hJ18, rfl, hy15_0, S⟩
   have x1h1 := x1h1.mono hJ18
   have x1h10 := x1h10.mono hJ18
   have hI := hI.trans hJ18
   refine u rfl (x_fa tf40_9 rfl) <| g rfl (o_st tone25 S 1 rfl rfl rfl hy15_0.one fun w S => sq (FW.anew [(3, pt b2), (4, pt b3)] ⟨rfl, rfl, trivial⟩ fun σ => rg (u rfl (x_ldA tag40 rfl (S.loadW 1 rfl) rfl) (g rfl (o_stA tag40 S 0 rfl rfl rfl rfl (c1 rfl (c1 x1h1.one (c1 rfl (c1 rfl (c1 rfl (c1 rfl (c1 rfl (c1 rfl (c1 rfl (c1 hy15_0.one (c1 x1h10.one c0))))))))))) rfl fun w S => rt ?_)))))
   obtain rfl := si H
   exact ⟨_, ⟨_, _, _, rfl, rfl, ldA tag40 (S.loadW 0 rfl) rfl, rfl⟩, ⟨x1v1, vy15_0, x1v10, J17, hI, rfl, x1h1, hy15_0, x1h10, (S.sel 3 [] rfl)⟩⟩
  rw [if_neg cc14] at H
  refine cF rfl (eqF cc14) <| sq <| FW.anew [(2, pt b1), (3, pt b2), (4, pt b3), (10, .int .i64 x0.Kind)] ⟨rfl, rfl, rfl, rfl, trivial⟩ fun σ => rg <| u rfl (x_bin rfl rfl rfl) <| mv (.bool (x0.Kind == 5)) rfl ?_
  by_cases cc19 : x0.Kind = 5
  ·rw [if_pos cc19] at H
   refine cT rfl (eqT cc19) <| rg <| u rfl (x_fa tf40_9 rfl) <| u rfl (x_ld tsc25 rfl (S.load 1 rfl 9 rfl)) <| u rfl (x_fa tf29_2 rfl) <| u rfl (x_ld tsc23 rfl (S.load 2 rfl 2 rfl)) ?_
   obtain ⟨y20, hy21, H⟩ := obx H
   refine g rfl (cl fb101 (@filter_Drop.ok k x1.Comms x0.Addr _ _ _ _ _ hG S x1h9 hy21) rfl ?_)
   rintro vy20_0 w ⟨vy20_0q, J22, hJ23, rfl, hy20_0, S⟩
   have x1h1 := x1h1.mono hJ23
   have x1h10 := x1h10.mono hJ23
   have hI := hI.trans hJ23
   refine u rfl (x_fa tf40_9 rfl) <| g rfl (o_st tone25 S 1 rfl rfl rfl hy20_0.one fun w S => sq (FW.anew [(3, pt b2), (4, pt b3)] ⟨rfl, rfl, trivial⟩ fun σ => rg (u rfl (x_ldA tag40 rfl (S.loadW 1 rfl) rfl) (g rfl (o_stA tag40 S 0 rfl rfl rfl rfl (c1 rfl (c1 x1h1.one (c1 rfl (c1 rfl (c1 rfl (c1 rfl (c1 rfl (c1 rfl (c1 rfl (c1 hy20_0.one (c1 x1h10.one c0))))))))))) rfl fun w S => rt ?_)))))
   obtain rfl := si H
   exact ⟨_, ⟨_, _, _, rfl, rfl, ldA tag40 (S.loadW 0 rfl) rfl, rfl⟩, ⟨x1v1, vy20_0, x1v10, J22, hI, rfl, x1h1, hy20_0, x1h10, (S.sel 3 [] rfl)⟩⟩
  rw [if_neg cc19] at H
  refine cF rfl (eqF cc19) <| sr <| u rfl (x_bin rfl rfl rfl) <| mv (.bool (x0.Kind == 6)) rfl ?_
  by_cases cc24 : x0.Kind = 6
  ·rw [if_pos cc24] at H
   refine cT rfl (eqT cc24) <| rg <| u rfl (x_fa tf29_2 rfl) <| u rfl (x_ld tsc23 rfl (S.load 2 rfl 2 rfl)) <| u rfl (x_fa tf40_2 rfl) <| g rfl (o_st tone23 S 1 rfl rfl rfl rfl fun w S => sq (FW.anew [(3, pt b2), (4, pt b3)] ⟨rfl, rfl, trivial⟩ fun σ => rg (u rfl (x_ldA tag40 rfl (S.loadW 1 rfl) rfl) (g rfl (o_stA tag40 S 0 rfl rfl rfl rfl (c1 rfl (c1 x1h1.one (c1 rfl (c1 rfl (c1 rfl (c1 rfl (c1 rfl (c1 rfl (c1 rfl (c1 x1h9.one (c1 x1h10.one c0))))))))))) rfl fun w S => rt ?_)))))
   obtain rfl := si H
   exact ⟨_, ⟨_, _, _, rfl, rfl, ldA tag40 (S.loadW 0 rfl) rfl, rfl⟩, ⟨x1v1, x1v9, x1v10, I, hI, rfl, x1h1, x1h9, x1h10, (S.sel 3 [] rfl)⟩⟩
  rw [if_neg cc24] at H
  refine cF rfl (eqF cc24) <| sr <| u rfl (x_bin rfl rfl rfl) <| mv (.bool (x0.Kind == 7)) rfl ?_
  by_cases cc25 : x0.Kind = 7
  ·rw [if_pos cc25] at H
   refine cT rfl (eqT cc25) <| rg <| u rfl (x_fa tf40_9 rfl) <| g rfl (o_st tone25 S 1 rfl rfl rfl rfl fun w S => sq (FW.anew [(3, pt b2), (4, pt b3)] ⟨rfl, rfl, trivial⟩ fun σ => rg (u rfl (x_ldA tag40 rfl (S.loadW 1 rfl) rfl) (g rfl (o_stA tag40 S 0 rfl rfl rfl rfl (c1 rfl (c1 x1h1.one (c1 rfl (c1 rfl (c1 rfl (c1 rfl (c1 rfl (c1 rfl (c1 rfl (c1 rfl (c1 x1h10.one c0))))))))))) rfl fun w S => rt ?_)))))
   obtain rfl := si H
   exact ⟨_, ⟨_, _, _, rfl, rfl, ldA tag40 (S.loadW 0 rfl) rfl, rfl⟩, ⟨x1v1, (.slice none 0 0), x1v10, I, hI, rfl, x1h1, (SlR.nil _ _), x1h10, (S.sel 3 [] rfl)⟩⟩
  rw [if_neg cc25] at H
  refine cF rfl (eqF cc25) <| sk <| sr <| u rfl (x_ldA tag40 rfl (S.loadW 1 rfl) rfl) <| g rfl (o_stA tag40 S 0 rfl rfl rfl rfl (c1 rfl (c1 x1h1.one (c1 rfl (c1 rfl (c1 rfl (c1 rfl (c1 rfl (c1 rfl (c1 rfl (c1 x1h9.one (c1 x1h10.one c0))))))))))) rfl fun w S => rt ?_)
  obtain rfl := si H
  exact ⟨_, ⟨_, _, _, rfl, rfl, ldA tag40 (S.loadW 0 rfl) rfl, rfl⟩, ⟨x1v1, x1v9, x1v10, I, hI, rfl, x1h1, x1h9, x1h10, (S.sel 3 [] rfl)⟩⟩
 rw [if_neg cc6] at H
 refine cT rfl (noT (vaF cc6)) <| sr <| u rfl (x_ldA tag40 rfl (S.loadW 1 rfl) rfl) <| g rfl (o_stA tag40 S 0 rfl rfl rfl rfl (c1 rfl (c1 x1h1.one (c1 rfl (c1 rfl (c1 rfl (c1 rfl (c1 rfl (c1 rfl (c1 rfl (c1 x1h9.one (c1 x1h10.one c0))))))))))) rfl fun w S => rt ?_)
 obtain rfl := si H
 exact ⟨_, ⟨_, _, _, rfl, rfl, ldA tag40 (S.loadW 0 rfl) rfl, rfl⟩, ⟨x1v1, x1v9, x1v10, I, hI, rfl, x1h1, x1h9, x1h10, (S.sel 3 [] rfl)⟩⟩
def policy_Apply.l1 : Nat → T_api_Prefix → Int → (List T_api_Segment) → Int → Int → Int → Bool → Bool → Int → Int → (List Int) → (List T_api_Raw) → T_api_Rule → Int → Option (Sum Unit Unit)
  | 0, _, _, _, _, _, _, _, _, _, _, _, _, _, _ => none
  | k + 1, x1, n10, l11, n14, n15, n16, b17, b18, n19, n20, l21, l24, y52, n61 => (if n61 < (y52.Conds.length : Int) then ((lat y52.Conds n61).bind fun y71 => ((policy_Holds.f k y71 x1 (T_api_Attrs.mk n10 l11 n14 n15 n16 b17 b18 n19 n20 l21 l24)).bind fun y79 => (if y79 = true then (policy_Apply.l1 k x1 n10 l11 n14 n15 n16 b17 b18 n19 n20 l21 l24 y52 (i64 (n61 + 1))) else (some (.inl ()))))) else (some (.inr ())))
def policy_Apply.l2 : Nat → T_api_Rule → Int → Int → (List T_api_Segment) → Int → Int → Int → Bool → Bool → Int → Int → (List Int) → (List T_api_Raw) → Option (Int × (List T_api_Segment) × Int × Int × Int × Bool × Bool × Int × Int × (List Int) × (List T_api_Raw))
  | 0, _, _, _, _, _, _, _, _, _, _, _, _, _ => none
  | k + 1, y52, n83, n84, l85, n88, n89, n90, b91, b92, n93, n94, l95, l98 => (if n83 < (y52.Deeds.length : Int) then ((lat y52.Deeds n83).bind fun y126 => ((policy_Do.f k y126 (T_api_Attrs.mk n84 l85 n88 n89 n90 b91 b92 n93 n94 l95 l98)).bind fun y134 => (policy_Apply.l2 k y52 (i64 (n83 + 1)) y134.Origin y134.Path y134.Next y134.Med y134.Pref y134.Atomic y134.HasAggr y134.AggrAS y134.AggrAddr y134.Comms y134.Raws))) else (some (n84, l85, n88, n89, n90, b91, b92, n93, n94, l95, l98)))
def policy_Apply.l0 : Nat → (List T_api_Rule) → T_api_Prefix → Int → Int → (List T_api_Segment) → Int → Int → Int → Bool → Bool → Int → Int → (List Int) → (List T_api_Raw) → Option (Sum (T_api_Attrs × Bool) (Int × (List T_api_Segment) × Int × Int × Int × Bool × Bool × Int × Int × (List Int) × (List T_api_Raw)))
  | 0, _, _, _, _, _, _, _, _, _, _, _, _, _, _ => none
  | k + 1, x0, x1, n9, n10, l11, n14, n15, n16, b17, b18, n19, n20, l21, l24 => (if n9 < (x0.length : Int) then ((lat x0 n9).bind fun y52 => ((policy_Apply.l1 k x1 n10 l11 n14 n15 n16 b17 b18 n19 n20 l21 l24 y52 0).bind fun o => match o with | .inl _ => (policy_Apply.l0 k x0 x1 (i64 (n9 + 1)) n10 l11 n14 n15 n16 b17 b18 n19 n20 l21 l24) | .inr _ => ((policy_Apply.l2 k y52 0 n10 l11 n14 n15 n16 b17 b18 n19 n20 l21 l24).bind fun (n107, l108, n111, n112, n113, b114, b115, n116, n117, l118, l121) => (if y52.Verdict = 1 then (some (.inl ((T_api_Attrs.mk n107 l108 n111 n112 n113 b114 b115 n116 n117 l118 l121), true))) else (if y52.Verdict = 2 then (some (.inr (n107, l108, n111, n112, n113, b114, b115, n116, n117, l118, l121))) else (policy_Apply.l0 k x0 x1 (i64 (n9 + 1)) n107 l108 n111 n112 n113 b114 b115 n116 n117 l118 l121)))))) else (some (.inr (n10, l11, n14, n15, n16, b17, b18, n19, n20, l21, l24))))
def policy_Apply.f (k : Nat) (x0 : (List T_api_Rule)) (x1 : T_api_Prefix) (x2 : T_api_Attrs) : Option (T_api_Attrs × Bool) := (if (x0.length : Int) = 0 then (some (x2, true)) else ((policy_Right.f k x0).bind fun y5 => (if y5 = true then (((policy_Apply.l0 k x0 x1 0 x2.Origin x2.Path x2.Next x2.Med x2.Pref x2.Atomic x2.HasAggr x2.AggrAS x2.AggrAddr x2.Comms x2.Raws) : Option (Sum (T_api_Attrs × Bool) (Int × (List T_api_Segment) × Int × Int × Int × Bool × Bool × Int × Int × (List Int) × (List T_api_Raw)))).bind fun o => match o with | .inl r => some r | .inr (n33, l34, n37, n38, n39, b40, b41, n42, n43, l44, l47) => (some ((T_api_Attrs.mk 0 [] 0 0 0 false false 0 0 [] []), false))) else (some ((T_api_Attrs.mk 0 [] 0 0 0 false false 0 0 [] []), false)))))
abbrev policy_Apply.C (k : Nat) : Prop := ∀ {x0 : (List T_api_Rule)} {x1 : T_api_Prefix} {x2 : T_api_Attrs} {vx0 : Value} {x2v1 : Value} {x2v9 : Value} {x2v10 : Value} {F : List It} {I : IMem} {w : World} {r : T_api_Attrs × Bool}, Glob I → Own I w (F) → SlR R_api_Rule I vx0 x0 → SlR R_api_Segment I x2v1 x2.Path → SlR (tInt' .u32) I x2v9 x2.Comms → SlR R_api_Raw I x2v10 x2.Raws → policy_Apply.f k x0 x1 x2 = some r →
    Calls Tryz.prog 22 #[vx0, .agg #[.int .u32 x1.Addr, .int .i64 x1.Len], .agg #[.int .i64 x2.Origin, x2v1, .int .u32 x2.Next, .int .i64 x2.Med, .int .i64 x2.Pref, .bool x2.Atomic, .bool x2.HasAggr, .int .u32 x2.AggrAS, .int .u32 x2.AggrAddr, x2v9, x2v10]] w fun e w' => ∃ v, e = .returned v ∧ ∃ (y_0v1 : Value) (y_0v9 : Value) (y_0v10 : Value) (J : IMem), I.le J ∧ v = .tuple #[.agg #[.int .i64 r.1.Origin, y_0v1, .int .u32 r.1.Next, .int .i64 r.1.Med, .int .i64 r.1.Pref, .bool r.1.Atomic, .bool r.1.HasAggr, .int .u32 r.1.AggrAS, .int .u32 r.1.AggrAddr, y_0v9, y_0v10], .bool r.2] ∧ SlR R_api_Segment J y_0v1 r.1.Path ∧ SlR (tInt' .u32) J y_0v9 r.1.Comms ∧ SlR R_api_Raw J y_0v10 r.1.Raws ∧ Own J w' (F)
theorem policy_Apply.ok (k : Nat) : policy_Apply.C k := by
 intro x0 x1 x2 vx0 x2v1 x2v9 x2v10 F I w r hG S hx0 x2h1 x2h9 x2h10 H
 have hI := ilr I
 rw [policy_Apply.f] at H
 refine Calls.ofFW (args := [vx0, .agg #[.int .u32 x1.Addr, .int .i64 x1.Len], .agg #[.int .i64 x2.Origin, x2v1, .int .u32 x2.Next, .int .i64 x2.Med, .int .i64 x2.Pref, .bool x2.Atomic, .bool x2.HasAggr, .int .u32 x2.AggrAS, .int .u32 x2.AggrAddr, x2v9, x2v10]]) Tryz.func22 rfl rfl <| sr <| g rfl (o_boxA rfl S fun b1 w S => g rfl (o_boxA rfl S fun b2 w S => g rfl (o_all tz40 S fun b3 w S => mv (.bool false) rfl (FW.scope (sq (sq (rg (mv vx0 rfl (u rfl (x_lenD (r := R_api_Rule) tsl22 hx0) (u rfl (x_bin rfl rfl rfl) ?_))))))))))
 by_cases cc4 : (x0.length : Int) = 0
 ·rw [if_pos cc4] at H
  refine cT rfl (eqT cc4) <| sq <| FW.anew [(5, pt b2), (6, pt b3)] ⟨rfl, rfl, trivial⟩ fun σ => rg <| u rfl (x_ldA tag40 rfl (S.loadW 1 rfl) rfl) <| g rfl (o_stA tag40 S 0 rfl rfl rfl rfl (c1 rfl (c1 x2h1.one (c1 rfl (c1 rfl (c1 rfl (c1 rfl (c1 rfl (c1 rfl (c1 rfl (c1 x2h9.one (c1 x2h10.one c0))))))))))) rfl fun w S => mv (.bool true) rfl (rt ?_))
  obtain rfl := si H
  exact ⟨_, ⟨_, _, _, rfl, rfl, ldA tag40 (S.loadW 0 rfl) rfl, ⟨_, rfl, rfl⟩⟩, ⟨x2v1, x2v9, x2v10, I, hI, rfl, x2h1, x2h9, x2h10, (S.sel 3 [] rfl)⟩⟩
 rw [if_neg cc4] at H
 refine cF rfl (eqF cc4) <| sk <| sq <| sq <| FW.anew [(0, vx0), (4, pt b1), (5, pt b2), (6, pt b3)] ⟨rfl, rfl, rfl, rfl, trivial⟩ fun σ => rg <| mv vx0 rfl ?_
 obtain ⟨y5, hy6, H⟩ := obx H
 refine g rfl (cl fb12 (@policy_Right.ok k x0 _ _ _ _ _ hG S hx0 hy6) rfl ?_)
 rintro _ w ⟨rfl, S⟩
 refine u rfl (x_not' rfl) ?_
 by_cases cc7 : y5 = true
 ·rw [if_pos cc7] at H
  refine cF rfl (noF cc7) <| sk <| sq <| FW.label <| sq <| sr <| mv vx0 rfl <| u rfl (x_lenD (r := R_api_Rule) tsl22 hx0) <| mv (.int .i64 0) rfl <| bk ?_
  obtain ⟨o29, hl31, HO30⟩ := obx H
  refine FW.cutX 0 (fun σ w => ∃ (n33 : Int) (l34 : (List T_api_Segment)) (n37 : Int) (n38 : Int) (n39 : Int) (b40 : Bool) (b41 : Bool) (n42 : Int) (n43 : Int) (l44 : (List Int)) (l47 : (List T_api_Raw)) (v35 : Value) (v45 : Value) (v48 : Value) (J32 : IMem), (.inr (n33, l34, n37, n38, n39, b40, b41, n42, n43, l44, l47)) = o29 ∧ Has σ [(6, pt b3)] ∧ I.le J32 ∧ Own J32 w (.bk b3 40 [.int .i64 0, (.slice none 0 0), .int .u32 0, .int .i64 0, .int .i64 0, .bool false, .bool false, .int .u32 0, .int .u32 0, (.slice none 0 0), (.slice none 0 0)] :: .bk b2 40 [.int .i64 n33, v35, .int .u32 n37, .int .i64 n38, .int .i64 n39, .bool b40, .bool b41, .int .u32 n42, .int .u32 n43, v45, v48] :: .bk b1 36 [.int .u32 x1.Addr, .int .i64 x1.Len] :: F) ∧ SlR R_api_Segment J32 v35 l34 ∧ SlR (tInt' .u32) J32 v45 l44 ∧ SlR R_api_Raw J32 v48 l47) ?_ ?_
  ·refine FW.loop k (FL.ind (fun q σ w => ∃ (n9 : Int) (n10 : Int) (l11 : (List T_api_Segment)) (n14 : Int) (n15 : Int) (n16 : Int) (b17 : Bool) (b18 : Bool) (n19 : Int) (n20 : Int) (l21 : (List Int)) (l24 : (List T_api_Raw)) (v12 : Value) (v22 : Value) (v25 : Value) (J8 : IMem), policy_Apply.l0 q x0 x1 n9 n10 l11 n14 n15 n16 b17 b18 n19 n20 l21 l24 = some o29 ∧ q ≤ k ∧ Has σ [(4, pt b1), (5, pt b2), (6, pt b3), (22, vx0), (23, .int .i64 (x0.length : Int)), (24, .int .i64 n9)] ∧ I.le J8 ∧ Own J8 w (.bk b3 40 [.int .i64 0, (.slice none 0 0), .int .u32 0, .int .i64 0, .int .i64 0, .bool false, .bool false, .int .u32 0, .int .u32 0, (.slice none 0 0), (.slice none 0 0)] :: .bk b2 40 [.int .i64 n10, v12, .int .u32 n14, .int .i64 n15, .int .i64 n16, .bool b17, .bool b18, .int .u32 n19, .int .u32 n20, v22, v25] :: .bk b1 36 [.int .u32 x1.Addr, .int .i64 x1.Len] :: F) ∧ SlR R_api_Segment J8 v12 l11 ∧ SlR (tInt' .u32) J8 v22 l21 ∧ SlR R_api_Raw J8 v25 l24) ?_ ?_ k k _ _ (Nat.le_refl _) ⟨0, x2.Origin, x2.Path, x2.Next, x2.Med, x2.Pref, x2.Atomic, x2.HasAggr, x2.AggrAS, x2.AggrAddr, x2.Comms, x2.Raws, x2v1, x2v9, x2v10, I, hl31, Nat.le_refl _, ⟨rfl, rfl, rfl, rfl, rfl, rfl, trivial⟩, (ilr _), S, x2h1, x2h9, x2h10⟩)
   ·rintro σ w ⟨n9, n10, l11, n14, n15, n16, b17, b18, n19, n20, l21, l24, v12, v22, v25, J8, H, _⟩; cases H
   rintro q27 σ w ⟨n9, n10, l11, n14, n15, n16, b17, b18, n19, n20, l21, l24, v12, v22, v25, J8, H, hq50, hσ, hL28, S, h13, h23, h26⟩
   have hx0 := hx0.mono hL28
   have hI := hI.trans hL28
   have hG := hG.mono hL28
   rw [hσ.eq]
   rw [policy_Apply.l0] at H
   refine sr <| u rfl (x_bin rfl rfl rfl) <| sq ?_
   by_cases cc51 : n9 < (x0.length : Int)
   ·rw [if_pos cc51] at H
    refine cT rfl (deT cc51) <| sk <| sq <| bk <| sq <| rg ?_
    obtain ⟨y52, h53, H⟩ := obx H
    refine g rfl (o_ia (r := R_api_Rule) tsl22 rfl rfl hx0 rfl h53 fun b54 o55 cs56 hr57 hc58 => ?_)
    obtain ⟨y52v0, y52v1, rfl, y52h0, y52h1⟩ := hr57
    refine u rfl (x_ldA tag51 rfl (S.loadI hc58) rfl) <| g rfl (o_all tz51 S fun b59 w S => g rfl (o_stA tag51 S 0 rfl rfl rfl rfl (c1 y52h0.one (c1 y52h1.one (c1 rfl c0))) rfl fun w S => sq (sq (rg (u rfl (x_fa tf51_0 rfl) (u rfl (x_ld tsc48 rfl (S.load 0 rfl 0 rfl)) (u rfl (x_lenD (r := R_api_Cond) tsl48 y52h0) (mv (.int .i64 0) rfl (bk ?_)))))))))
    obtain ⟨o64, hl66, HO65⟩ := obx H
    refine FW.cutX 1 (fun σ w => ∃ (J67 : IMem), (.inl ()) = o64 ∧ Has σ [(4, pt b1), (5, pt b2), (6, pt b3), (22, vx0), (23, .int .i64 (x0.length : Int)), (24, .int .i64 n9)] ∧ J8.le J67 ∧ Own J67 w (.bk b59 51 [y52v0, y52v1, .int .i64 y52.Verdict] :: .bk b3 40 [.int .i64 0, (.slice none 0 0), .int .u32 0, .int .i64 0, .int .i64 0, .bool false, .bool false, .int .u32 0, .int .u32 0, (.slice none 0 0), (.slice none 0 0)] :: .bk b2 40 [.int .i64 n10, v12, .int .u32 n14, .int .i64 n15, .int .i64 n16, .bool b17, .bool b18, .int .u32 n19, .int .u32 n20, v22, v25] :: .bk b1 36 [.int .u32 x1.Addr, .int .i64 x1.Len] :: F)) ?_ ?_
    ·refine FW.cutX 2 (fun σ w => ∃ (J68 : IMem), (.inr ()) = o64 ∧ Has σ [(4, pt b1), (5, pt b2), (6, pt b3), (9, pt b59), (22, vx0), (23, .int .i64 (x0.length : Int)), (24, .int .i64 n9)] ∧ J8.le J68 ∧ Own J68 w (.bk b59 51 [y52v0, y52v1, .int .i64 y52.Verdict] :: .bk b3 40 [.int .i64 0, (.slice none 0 0), .int .u32 0, .int .i64 0, .int .i64 0, .bool false, .bool false, .int .u32 0, .int .u32 0, (.slice none 0 0), (.slice none 0 0)] :: .bk b2 40 [.int .i64 n10, v12, .int .u32 n14, .int .i64 n15, .int .i64 n16, .bool b17, .bool b18, .int .u32 n19, .int .u32 n20, v22, v25] :: .bk b1 36 [.int .u32 x1.Addr, .int .i64 x1.Len] :: F)) ?_ ?_
     ·refine FW.loop q27 (FL.ind (fun q σ w => ∃ (n61 : Int) (J60 : IMem), policy_Apply.l1 q x1 n10 l11 n14 n15 n16 b17 b18 n19 n20 l21 l24 y52 n61 = some o64 ∧ q ≤ q27 ∧ Has σ [(4, pt b1), (5, pt b2), (6, pt b3), (9, pt b59), (22, vx0), (23, .int .i64 (x0.length : Int)), (24, .int .i64 n9), (29, y52v0), (30, .int .i64 (y52.Conds.length : Int)), (31, .int .i64 n61)] ∧ J8.le J60 ∧ Own J60 w (.bk b59 51 [y52v0, y52v1, .int .i64 y52.Verdict] :: .bk b3 40 [.int .i64 0, (.slice none 0 0), .int .u32 0, .int .i64 0, .int .i64 0, .bool false, .bool false, .int .u32 0, .int .u32 0, (.slice none 0 0), (.slice none 0 0)] :: .bk b2 40 [.int .i64 n10, v12, .int .u32 n14, .int .i64 n15, .int .i64 n16, .bool b17, .bool b18, .int .u32 n19, .int .u32 n20, v22, v25] :: .bk b1 36 [.int .u32 x1.Addr, .int .i64 x1.Len] :: F)) ?_ ?_ q27 q27 _ _ (Nat.le_refl _) ⟨0, J8, hl66, Nat.le_refl _, ⟨rfl, rfl, rfl, rfl, rfl, rfl, rfl, rfl, rfl, rfl, trivial⟩, (ilr _), S⟩)
      ·rintro σ w ⟨n61, J60, H, _⟩; cases H
      rintro q62 σ w ⟨n61, J60, H, hq69, hσ, hL63, S⟩
      have y52h0 := y52h0.mono hL63
      have h13 := h13.mono hL63
      have h23 := h23.mono hL63
      have h26 := h26.mono hL63
      have hG := hG.mono hL63
      rw [hσ.eq]
      rw [policy_Apply.l1] at H
      refine sr <| u rfl (x_bin rfl rfl rfl) <| sq ?_
      by_cases cc70 : n61 < (y52.Conds.length : Int)
      ·rw [if_pos cc70] at H
       refine cT rfl (deT cc70) <| sk <| sq <| bk <| sq <| rg ?_
       obtain ⟨y71, h72, H⟩ := obx H
       refine g rfl (o_ia (r := R_api_Cond) tsl48 rfl rfl y52h0 rfl h72 fun b73 o74 cs75 hr76 hc77 => ?_)
       obtain ⟨y71v5, y71v6, rfl, y71h5, y71h6⟩ := hr76
       refine u rfl (x_ldA tag27 rfl (S.loadI hc77) rfl) <| g rfl (o_all tz27 S fun b78 w S => g rfl (o_stA tag27 S 0 rfl rfl rfl rfl (c1 rfl (c1 rfl (c1 rfl (c1 rfl (c1 rfl (c1 y71h5.one (c1 y71h6.one c0))))))) rfl fun w S => sq (rg (u rfl (x_ldA tag27 rfl (S.loadW 0 rfl) rfl) (u rfl (x_ldA tag36 rfl (S.loadW 4 rfl) rfl) (u rfl (x_ldA tag40 rfl (S.loadW 3 rfl) rfl) ?_))))))
       obtain ⟨y79, hy80, H⟩ := obx H
       refine g rfl (cl fb20 (@policy_Holds.ok q62 y71 x1 (T_api_Attrs.mk n10 l11 n14 n15 n16 b17 b18 n19 n20 l21 l24) _ _ _ _ _ _ _ _ _ hG S y71h5 y71h6 h13 h23 h26 hy80) rfl ?_)
       rintro _ w ⟨rfl, S⟩
       refine u rfl (x_not' rfl) ?_
       by_cases cc81 : y79 = true
       ·rw [if_pos cc81] at H
        refine cF rfl (noF cc81) <| sk <| FW.anew [(4, pt b1), (5, pt b2), (6, pt b3), (9, pt b59), (22, vx0), (23, .int .i64 (x0.length : Int)), (24, .int .i64 n9), (29, y52v0), (30, .int .i64 (y52.Conds.length : Int)), (31, .int .i64 n61)] ⟨rfl, rfl, rfl, rfl, rfl, rfl, rfl, rfl, rfl, rfl, trivial⟩ fun σ => rg <| u rfl (x_bin rfl rfl rfl) <| mv (.int .i64 (i64 (n61 + 1))) rfl ⟨q62, Nat.le_refl _, (i64 (n61 + 1)), J60, H, (Nat.le_of_succ_le hq69), ⟨rfl, rfl, rfl, rfl, rfl, rfl, rfl, rfl, rfl, rfl, trivial⟩, hL63, (S.sel 5 [1, 2, 3, 4] rfl)⟩
       rw [if_neg cc81] at H
       refine cT rfl (noT (vaF cc81)) <| ex ⟨J60, (si H), ⟨rfl, rfl, rfl, rfl, rfl, rfl, trivial⟩, hL63, (S.sel 5 [1, 2, 3, 4] rfl)⟩
      rw [if_neg cc70] at H
      refine cF rfl (deF cc70) <| ex ⟨J60, (si H), ⟨rfl, rfl, rfl, rfl, rfl, rfl, rfl, trivial⟩, hL63, S⟩
     rintro σ w ⟨J68, ho, hσ, hL63, S⟩
     subst ho
     have H := HO65
     try dsimp only at H
     have y52h1 := y52h1.mono hL63
     have h13 := h13.mono hL63
     have h23 := h23.mono hL63
     have h26 := h26.mono hL63
     have hI := hI.trans hL63
     have hL28 := hL28.trans hL63
     have hG := hG.mono hL63
     rw [hσ.eq]
     refine sq <| sr <| u rfl (x_fa tf51_1 rfl) <| u rfl (x_ld tsc49 rfl (S.load 0 rfl 1 rfl)) <| u rfl (x_lenD (r := R_api_Deed) tsl49 y52h1) <| mv (.int .i64 0) rfl <| bk ?_
     obtain ⟨o103, hl105, HO104⟩ := obx H
     refine FW.cutX 4 (fun σ w => ∃ (n107 : Int) (l108 : (List T_api_Segment)) (n111 : Int) (n112 : Int) (n113 : Int) (b114 : Bool) (b115 : Bool) (n116 : Int) (n117 : Int) (l118 : (List Int)) (l121 : (List T_api_Raw)) (v109 : Value) (v119 : Value) (v122 : Value) (J106 : IMem), (n107, l108, n111, n112, n113, b114, b115, n116, n117, l118, l121) = o103 ∧ Has σ [(4, pt b1), (5, pt b2), (6, pt b3), (9, pt b59), (22, vx0), (23, .int .i64 (x0.length : Int)), (24, .int .i64 n9)] ∧ J68.le J106 ∧ Own J106 w (.bk b59 51 [y52v0, y52v1, .int .i64 y52.Verdict] :: .bk b3 40 [.int .i64 0, (.slice none 0 0), .int .u32 0, .int .i64 0, .int .i64 0, .bool false, .bool false, .int .u32 0, .int .u32 0, (.slice none 0 0), (.slice none 0 0)] :: .bk b2 40 [.int .i64 n107, v109, .int .u32 n111, .int .i64 n112, .int .i64 n113, .bool b114, .bool b115, .int .u32 n116, .int .u32 n117, v119, v122] :: .bk b1 36 [.int .u32 x1.Addr, .int .i64 x1.Len] :: F) ∧ SlR R_api_Segment J106 v109 l108 ∧ SlR (tInt' .u32) J106 v119 l118 ∧ SlR R_api_Raw J106 v122 l121) ?_ ?_
     ·refine FW.loop q27 (FL.ind (fun q σ w => ∃ (n83 : Int) (n84 : Int) (l85 : (List T_api_Segment)) (n88 : Int) (n89 : Int) (n90 : Int) (b91 : Bool) (b92 : Bool) (n93 : Int) (n94 : Int) (l95 : (List Int)) (l98 : (List T_api_Raw)) (v86 : Value) (v96 : Value) (v99 : Value) (J82 : IMem), policy_Apply.l2 q y52 n83 n84 l85 n88 n89 n90 b91 b92 n93 n94 l95 l98 = some o103 ∧ q ≤ q27 ∧ Has σ [(4, pt b1), (5, pt b2), (6, pt b3), (9, pt b59), (22, vx0), (23, .int .i64 (x0.length : Int)), (24, .int .i64 n9), (42, y52v1), (43, .int .i64 (y52.Deeds.length : Int)), (44, .int .i64 n83)] ∧ J68.le J82 ∧ Own J82 w (.bk b59 51 [y52v0, y52v1, .int .i64 y52.Verdict] :: .bk b3 40 [.int .i64 0, (.slice none 0 0), .int .u32 0, .int .i64 0, .int .i64 0, .bool false, .bool false, .int .u32 0, .int .u32 0, (.slice none 0 0), (.slice none 0 0)] :: .bk b2 40 [.int .i64 n84, v86, .int .u32 n88, .int .i64 n89, .int .i64 n90, .bool b91, .bool b92, .int .u32 n93, .int .u32 n94, v96, v99] :: .bk b1 36 [.int .u32 x1.Addr, .int .i64 x1.Len] :: F) ∧ SlR R_api_Segment J82 v86 l85 ∧ SlR (tInt' .u32) J82 v96 l95 ∧ SlR R_api_Raw J82 v99 l98) ?_ ?_ q27 q27 _ _ (Nat.le_refl _) ⟨0, n10, l11, n14, n15, n16, b17, b18, n19, n20, l21, l24, v12, v22, v25, J68, hl105, Nat.le_refl _, ⟨rfl, rfl, rfl, rfl, rfl, rfl, rfl, rfl, rfl, rfl, trivial⟩, (ilr _), S, h13, h23, h26⟩)
      ·rintro σ w ⟨n83, n84, l85, n88, n89, n90, b91, b92, n93, n94, l95, l98, v86, v96, v99, J82, H, _⟩; cases H
      rintro q101 σ w ⟨n83, n84, l85, n88, n89, n90, b91, b92, n93, n94, l95, l98, v86, v96, v99, J82, H, hq124, hσ, hL102, S, h87, h97, h100⟩
      have y52h1 := y52h1.mono hL102
      have hG := hG.mono hL102
      rw [hσ.eq]
      rw [policy_Apply.l2] at H
      refine sr <| u rfl (x_bin rfl rfl rfl) <| sq ?_
      by_cases cc125 : n83 < (y52.Deeds.length : Int)
      ·rw [if_pos cc125] at H
       refine cT rfl (deT cc125) <| sk <| sq <| bk <| sq <| rg ?_
       obtain ⟨y126, h127, H⟩ := obx H
       refine g rfl (o_ia (r := R_api_Deed) tsl49 rfl rfl y52h1 rfl h127 fun b128 o129 cs130 hr131 hc132 => ?_)
       obtain rfl := hr131
       refine u rfl (x_ldA tag29 rfl (S.loadI hc132) rfl) <| g rfl (o_all tz29 S fun b133 w S => g rfl (o_stA tag29 S 0 rfl rfl rfl rfl (c1 rfl (c1 rfl (c1 rfl c0))) rfl fun w S => rg (u rfl (x_ldA tag29 rfl (S.loadW 0 rfl) rfl) (u rfl (x_ldA tag40 rfl (S.loadW 3 rfl) rfl) ?_))))
       obtain ⟨y134, hy135, H⟩ := obx H
       refine g rfl (cl fb58 (@policy_Do.ok q101 y126 (T_api_Attrs.mk n84 l85 n88 n89 n90 b91 b92 n93 n94 l95 l98) _ _ _ _ _ _ _ hG S h87 h97 h100 hy135) rfl ?_)
       rintro _ w ⟨y134_0v1, y134_0v9, y134_0v10, J136, hJ137, rfl, y134_0h1, y134_0h9, y134_0h10, S⟩
       have hL102 := hL102.trans hJ137
       refine g rfl (o_stA tag40 S 3 rfl rfl rfl rfl (c1 rfl (c1 y134_0h1.one (c1 rfl (c1 rfl (c1 rfl (c1 rfl (c1 rfl (c1 rfl (c1 rfl (c1 y134_0h9.one (c1 y134_0h10.one c0))))))))))) rfl fun w S => FW.anew [(4, pt b1), (5, pt b2), (6, pt b3), (9, pt b59), (22, vx0), (23, .int .i64 (x0.length : Int)), (24, .int .i64 n9), (42, y52v1), (43, .int .i64 (y52.Deeds.length : Int)), (44, .int .i64 n83)] ⟨rfl, rfl, rfl, rfl, rfl, rfl, rfl, rfl, rfl, rfl, trivial⟩ fun σ => rg (u rfl (x_bin rfl rfl rfl) (mv (.int .i64 (i64 (n83 + 1))) rfl ⟨q101, Nat.le_refl _, (i64 (n83 + 1)), y134.Origin, y134.Path, y134.Next, y134.Med, y134.Pref, y134.Atomic, y134.HasAggr, y134.AggrAS, y134.AggrAddr, y134.Comms, y134.Raws, y134_0v1, y134_0v9, y134_0v10, J136, H, (Nat.le_of_succ_le hq124), ⟨rfl, rfl, rfl, rfl, rfl, rfl, rfl, rfl, rfl, rfl, trivial⟩, hL102, (S.sel 5 [1, 2, 3, 4] rfl), y134_0h1, y134_0h9, y134_0h10⟩)))
      rw [if_neg cc125] at H
      refine cF rfl (deF cc125) <| ex ⟨n84, l85, n88, n89, n90, b91, b92, n93, n94, l95, l98, v86, v96, v99, J82, (si H), ⟨rfl, rfl, rfl, rfl, rfl, rfl, rfl, trivial⟩, hL102, S, h87, h97, h100⟩
     rintro σ w ⟨n107, l108, n111, n112, n113, b114, b115, n116, n117, l118, l121, v109, v119, v122, J106, ho, hσ, hL102, S, h110, h120, h123⟩
     subst ho
     have H := HO104
     try dsimp only at H
     have hI := hI.trans hL102
     have hL28 := hL28.trans hL102
     rw [hσ.eq]
     refine sr <| u rfl (x_fa tf51_2 rfl) <| u rfl (x_ld tsc3 rfl (S.load 0 rfl 2 rfl)) <| bk <| sr <| u rfl (x_bin rfl rfl rfl) <| mv (.bool (y52.Verdict == 1)) rfl ?_
     by_cases cc138 : y52.Verdict = 1
     ·rw [if_pos cc138] at H
      refine cT rfl (eqT cc138) <| sr <| u rfl (x_ldA tag40 rfl (S.loadW 2 rfl) rfl) <| g rfl (o_stA tag40 S 1 rfl rfl rfl rfl (c1 rfl (c1 h110.one (c1 rfl (c1 rfl (c1 rfl (c1 rfl (c1 rfl (c1 rfl (c1 rfl (c1 h120.one (c1 h123.one c0))))))))))) rfl fun w S => mv (.bool true) rfl (rt ?_))
      obtain rfl := si H
      obtain rfl := si HO30
      exact ⟨_, ⟨_, _, _, rfl, rfl, ldA tag40 (S.loadW 1 rfl) rfl, ⟨_, rfl, rfl⟩⟩, ⟨v109, v119, v122, J106, hI, rfl, h110, h120, h123, (S.sel 4 [] rfl)⟩⟩
     rw [if_neg cc138] at H
     refine cF rfl (eqF cc138) <| sr <| u rfl (x_bin rfl rfl rfl) <| mv (.bool (y52.Verdict == 2)) rfl ?_
     by_cases cc139 : y52.Verdict = 2
     ·rw [if_pos cc139] at H
      refine cT rfl (eqT cc139) <| ex ⟨n107, l108, n111, n112, n113, b114, b115, n116, n117, l118, l121, v109, v119, v122, J106, (si H), ⟨rfl, trivial⟩, hL28, (S.sel 4 [1, 2, 3] rfl), h110, h120, h123⟩
     rw [if_neg cc139] at H
     refine cF rfl (eqF cc139) <| sk <| rg <| u rfl (x_bin rfl rfl rfl) <| mv (.int .i64 (i64 (n9 + 1))) rfl ⟨q27, Nat.le_refl _, (i64 (n9 + 1)), n107, l108, n111, n112, n113, b114, b115, n116, n117, l118, l121, v109, v119, v122, J106, H, (Nat.le_of_succ_le hq50), ⟨rfl, rfl, rfl, rfl, rfl, rfl, trivial⟩, hL28, (S.sel 4 [1, 2, 3] rfl), h110, h120, h123⟩
    rintro σ w ⟨J67, ho, hσ, hL63, S⟩
    subst ho
    have H := HO65
    try dsimp only at H
    have h13 := h13.mono hL63
    have h23 := h23.mono hL63
    have h26 := h26.mono hL63
    have hL28 := hL28.trans hL63
    rw [hσ.eq]
    refine rg <| u rfl (x_bin rfl rfl rfl) <| mv (.int .i64 (i64 (n9 + 1))) rfl ⟨q27, Nat.le_refl _, (i64 (n9 + 1)), n10, l11, n14, n15, n16, b17, b18, n19, n20, l21, l24, v12, v22, v25, J67, H, (Nat.le_of_succ_le hq50), ⟨rfl, rfl, rfl, rfl, rfl, rfl, trivial⟩, hL28, (S.sel 4 [1, 2, 3] rfl), h13, h23, h26⟩
   rw [if_neg cc51] at H
   refine cF rfl (deF cc51) <| ex ⟨n10, l11, n14, n15, n16, b17, b18, n19, n20, l21, l24, v12, v22, v25, J8, (si H), ⟨rfl, trivial⟩, hL28, S, h13, h23, h26⟩
  rintro σ w ⟨n33, l34, n37, n38, n39, b40, b41, n42, n43, l44, l47, v35, v45, v48, J32, ho, hσ, hL28, S, h36, h46, h49⟩
  subst ho
  have H := HO30
  try dsimp only at H
  have hI := hI.trans hL28
  rw [hσ.eq]
  refine sr <| u rfl (x_bld tz40 tpl40 rfl PC.nil rfl) <| g rfl (o_stA tag40 S 0 rfl rfl rfl rfl (c1 rfl (c1 rfl (c1 rfl (c1 rfl (c1 rfl (c1 rfl (c1 rfl (c1 rfl (c1 rfl (c1 rfl (c1 rfl c0))))))))))) rfl fun w S => mv (.bool false) rfl (rt ?_))
  obtain rfl := si H
  exact ⟨_, ⟨_, _, _, rfl, rfl, ldA tag40 (S.loadW 0 rfl) rfl, ⟨_, rfl, rfl⟩⟩, ⟨(.slice none 0 0), (.slice none 0 0), (.slice none 0 0), J32, hI, rfl, (SlR.nil _ _), (SlR.nil _ _), (SlR.nil _ _), (S.sel 3 [] rfl)⟩⟩
 rw [if_neg cc7] at H
 refine cT rfl (noT (vaF cc7)) <| sr <| u rfl (x_bld tz40 tpl40 rfl PC.nil rfl) <| g rfl (o_stA tag40 S 0 rfl rfl rfl rfl (c1 rfl (c1 rfl (c1 rfl (c1 rfl (c1 rfl (c1 rfl (c1 rfl (c1 rfl (c1 rfl (c1 rfl (c1 rfl c0))))))))))) rfl fun w S => mv (.bool false) rfl (rt ?_))
 obtain rfl := si H
 exact ⟨_, ⟨_, _, _, rfl, rfl, ldA tag40 (S.loadW 0 rfl) rfl, ⟨_, rfl, rfl⟩⟩, ⟨(.slice none 0 0), (.slice none 0 0), (.slice none 0 0), I, hI, rfl, (SlR.nil _ _), (SlR.nil _ _), (SlR.nil _ _), (S.sel 3 [] rfl)⟩⟩
def w14_awake.f (k : Nat) : Option Bool := ((r04_Zero.f k).bind fun y17 => ((policy_Apply.f k ([(T_api_Rule.mk ([(T_api_Cond.mk 1 false 0 0 (⟨#[]⟩) [(T_api_Range.mk (T_api_Prefix.mk 167772160 8) 8 24)] [])]) [(T_api_Deed.mk 1 200 0)] 1)]) (T_api_Prefix.mk 167772160 16) y17).bind fun y21 => ((r04_Zero.f k).bind fun y26 => ((policy_Apply.f k ([(T_api_Rule.mk ([(T_api_Cond.mk 1 false 0 0 (⟨#[]⟩) [(T_api_Range.mk (T_api_Prefix.mk 167772160 8) 8 24)] [])]) [(T_api_Deed.mk 1 200 0)] 1)]) (T_api_Prefix.mk 184549376 16) y26).bind fun y30 => (if y21.2 = true then (if y21.1.Pref = 200 then (if y30.2 = true then (some false) else ((policy_Right.f k ([(T_api_Rule.mk ([(T_api_Cond.mk 1 false 0 0 (⟨#[]⟩) [(T_api_Range.mk (T_api_Prefix.mk 167772160 8) 8 24)] [])]) [(T_api_Deed.mk 1 200 0)] 1)])).bind fun y38 => (some y38))) else (some false)) else (some false))))))
abbrev w14_awake.C (k : Nat) : Prop := ∀ {F : List It} {I : IMem} {w : World} {r : Bool}, Glob I → Own I w (F) → w14_awake.f k = some r →
    Calls Tryz.prog 11 #[] w fun e w' => ∃ v, e = .returned v ∧ v = .bool r ∧ Own I w' (F)
theorem w14_awake.ok (k : Nat) : w14_awake.C k := by
 intro F I w r hG S H
 have hI := ilr I
 rw [w14_awake.f] at H
 refine Calls.ofFW (args := []) Tryz.func11 rfl rfl <| sr <| mv (.bool false) rfl <| sr <| u rfl (x_bld tz36 tpl36 rfl (.one rfl (.one rfl PC.nil)) rfl) <| u rfl (x_bld tz69 tpl69 rfl (.agg (.one rfl (.one rfl PC.nil))) rfl) <| g rfl (o_bsl tsl24 tz69 rfl rfl rfl rfl (.agg PC.nil) rfl S fun b1 w S => ?_)
 obtain ⟨J2, hJ4, S, h3⟩ := S.freeze (r := R_api_Range) (l := [(T_api_Range.mk (T_api_Prefix.mk 167772160 8) 8 24)]) 0 rfl ⟨[.int .u32 167772160, .int .i64 8, .int .i64 8, .int .i64 24], _, rfl, rfl, rfl⟩ rfl rfl
 have hI := hI.trans hJ4
 have hG := hG.mono hJ4
 refine u rfl (x_bld tz27 tpl27 rfl (.one rfl (.one h3.one PC.nil)) rfl) <| g rfl (o_bsl tsl48 tz27 rfl rfl rfl rfl (.agg PC.nil) rfl S fun b5 w S => ?_)
 obtain ⟨J6, hJ8, S, h7⟩ := S.freeze (r := R_api_Cond) (l := [(T_api_Cond.mk 1 false 0 0 (⟨#[]⟩) [(T_api_Range.mk (T_api_Prefix.mk 167772160 8) 8 24)] [])]) 0 rfl ⟨[.int .i64 1, .bool false, .int .i64 0, .int .u32 0, .string (⟨#[]⟩), (.slice (some ⟨b1, 0, none⟩) 1 1), (.slice none 0 0)], _, rfl, ⟨(.slice (some ⟨b1, 0, none⟩) 1 1), (.slice none 0 0), rfl, h3, (SlR.nil _ _)⟩, rfl⟩ rfl rfl
 have hI := hI.trans hJ8
 have hG := hG.mono hJ8
 refine u rfl (x_bld tz29 tpl29 rfl (.one rfl (.one rfl PC.nil)) rfl) <| g rfl (o_bsl tsl49 tz29 rfl rfl rfl rfl (.agg PC.nil) rfl S fun b9 w S => ?_)
 obtain ⟨J10, hJ12, S, h11⟩ := S.freeze (r := R_api_Deed) (l := [(T_api_Deed.mk 1 200 0)]) 0 rfl ⟨[.int .i64 1, .int .i64 200, .int .u32 0], _, rfl, rfl, rfl⟩ rfl rfl
 have h7 := h7.mono hJ12
 have hI := hI.trans hJ12
 have hG := hG.mono hJ12
 refine u rfl (x_bld tz51 tpl51 rfl (.one h7.one (.one h11.one (.one rfl PC.nil))) rfl) <| g rfl (o_bsl tsl22 tz51 rfl rfl rfl rfl (.agg PC.nil) rfl S fun b13 w S => ?_)
 obtain ⟨J14, hJ16, S, h15⟩ := S.freeze (r := R_api_Rule) (l := [(T_api_Rule.mk ([(T_api_Cond.mk 1 false 0 0 (⟨#[]⟩) [(T_api_Range.mk (T_api_Prefix.mk 167772160 8) 8 24)] [])]) [(T_api_Deed.mk 1 200 0)] 1)]) 0 rfl ⟨[(.slice (some ⟨b5, 0, none⟩) 1 1), (.slice (some ⟨b9, 0, none⟩) 1 1), .int .i64 1], _, rfl, ⟨(.slice (some ⟨b5, 0, none⟩) 1 1), (.slice (some ⟨b9, 0, none⟩) 1 1), rfl, h7, h11⟩, rfl⟩ rfl rfl
 have hI := hI.trans hJ16
 have hG := hG.mono hJ16
 refine mv ((.slice (some ⟨b13, 0, none⟩) 1 1)) rfl <| sq <| FW.anew [(1, (.slice (some ⟨b13, 0, none⟩) 1 1))] ⟨rfl, trivial⟩ fun σ => rg <| mv ((.slice (some ⟨b13, 0, none⟩) 1 1)) rfl <| u rfl (x_bld tz36 tpl36 rfl (.one rfl (.one rfl PC.nil)) rfl) ?_
 obtain ⟨y17, hy18, H⟩ := obx H
 refine g rfl (cl fb36 (@r04_Zero.ok k _ _ _ _ hG S hy18) rfl ?_)
 rintro _ w ⟨y17_0v1, y17_0v9, y17_0v10, J19, hJ20, rfl, y17_0h1, y17_0h9, y17_0h10, S⟩
 have h15 := h15.mono hJ20
 have hI := hI.trans hJ20
 have hG := hG.mono hJ20
 obtain ⟨y21, hy22, H⟩ := obx H
 refine g rfl (cl fb22 (@policy_Apply.ok k ([(T_api_Rule.mk ([(T_api_Cond.mk 1 false 0 0 (⟨#[]⟩) [(T_api_Range.mk (T_api_Prefix.mk 167772160 8) 8 24)] [])]) [(T_api_Deed.mk 1 200 0)] 1)]) (T_api_Prefix.mk 167772160 16) y17 _ _ _ _ _ _ _ _ hG S h15 y17_0h1 y17_0h9 y17_0h10 hy22) rfl ?_)
 rintro _ w ⟨y21_0v1, y21_0v9, y21_0v10, J23, hJ24, rfl, y21_0h1, y21_0h9, y21_0h10, S⟩
 have h15 := h15.mono hJ24
 have hI := hI.trans hJ24
 have hG := hG.mono hJ24
 refine mv (.tuple #[.agg #[.int .i64 y21.1.Origin, y21_0v1, .int .u32 y21.1.Next, .int .i64 y21.1.Med, .int .i64 y21.1.Pref, .bool y21.1.Atomic, .bool y21.1.HasAggr, .int .u32 y21.1.AggrAS, .int .u32 y21.1.AggrAddr, y21_0v9, y21_0v10], .bool y21.2]) rfl <| u rfl (x_ext rfl rfl) <| u rfl (x_ext rfl rfl) <| g rfl (o_all tz40 S fun b25 w S => g rfl (o_stA tag40 S 0 rfl rfl rfl rfl (c1 rfl (c1 y21_0h1.one (c1 rfl (c1 rfl (c1 rfl (c1 rfl (c1 rfl (c1 rfl (c1 rfl (c1 y21_0h9.one (c1 y21_0h10.one c0))))))))))) rfl fun w S => mv (.bool y21.2) rfl (sq (FW.anew [(1, (.slice (some ⟨b13, 0, none⟩) 1 1)), (2, pt b25), (3, .bool y21.2)] ⟨rfl, rfl, rfl, trivial⟩ fun σ => rg (mv ((.slice (some ⟨b13, 0, none⟩) 1 1)) rfl (u rfl (x_bld tz36 tpl36 rfl (.one rfl (.one rfl PC.nil)) rfl) ?_))))))
 obtain ⟨y26, hy27, H⟩ := obx H
 refine g rfl (cl fb36 (@r04_Zero.ok k _ _ _ _ hG S hy27) rfl ?_)
 rintro _ w ⟨y26_0v1, y26_0v9, y26_0v10, J28, hJ29, rfl, y26_0h1, y26_0h9, y26_0h10, S⟩
 have h15 := h15.mono hJ29
 have hI := hI.trans hJ29
 have hG := hG.mono hJ29
 obtain ⟨y30, hy31, H⟩ := obx H
 refine g rfl (cl fb22 (@policy_Apply.ok k ([(T_api_Rule.mk ([(T_api_Cond.mk 1 false 0 0 (⟨#[]⟩) [(T_api_Range.mk (T_api_Prefix.mk 167772160 8) 8 24)] [])]) [(T_api_Deed.mk 1 200 0)] 1)]) (T_api_Prefix.mk 184549376 16) y26 _ _ _ _ _ _ _ _ hG S h15 y26_0h1 y26_0h9 y26_0h10 hy31) rfl ?_)
 rintro _ w ⟨y30_0v1, y30_0v9, y30_0v10, J32, hJ33, rfl, y30_0h1, y30_0h9, y30_0h10, S⟩
 have h15 := h15.mono hJ33
 have hI := hI.trans hJ33
 have hG := hG.mono hJ33
 refine mv (.tuple #[.agg #[.int .i64 y30.1.Origin, y30_0v1, .int .u32 y30.1.Next, .int .i64 y30.1.Med, .int .i64 y30.1.Pref, .bool y30.1.Atomic, .bool y30.1.HasAggr, .int .u32 y30.1.AggrAS, .int .u32 y30.1.AggrAddr, y30_0v9, y30_0v10], .bool y30.2]) rfl <| u rfl (x_ext rfl rfl) <| u rfl (x_ext rfl rfl) <| g rfl (o_all tz40 S fun b34 w S => g rfl (o_stA tag40 S 0 rfl rfl rfl rfl (c1 rfl (c1 y30_0h1.one (c1 rfl (c1 rfl (c1 rfl (c1 rfl (c1 rfl (c1 rfl (c1 rfl (c1 y30_0h9.one (c1 y30_0h10.one c0))))))))))) rfl fun w S => mv (.bool y30.2) rfl (sq (FW.anew [(1, (.slice (some ⟨b13, 0, none⟩) 1 1)), (2, pt b25), (3, .bool y21.2), (5, .bool y30.2)] ⟨rfl, rfl, rfl, rfl, trivial⟩ fun σ => rg (mv (.bool y21.2) rfl (mv (.bool y21.2) rfl ?_))))))
 by_cases cc35 : y21.2 = true
 ·rw [if_pos cc35] at H
  refine gu rfl rfl rfl cc35 (x_fa tf40_4 rfl) <| gu rfl rfl rfl cc35 (x_ld tsc3 rfl (S.load 1 rfl 4 rfl)) <| gu rfl rfl rfl cc35 (x_bin rfl rfl rfl) <| u rfl (x_pickTV (v := .bool (y21.1.Pref == 200)) rfl cc35 rfl) <| mv (.bool (y21.1.Pref == 200)) rfl ?_
  by_cases cc36 : y21.1.Pref = 200
  ·rw [if_pos cc36] at H
   refine gu rfl rfl rfl (eqT cc36) (x_movV (v := .bool y30.2) rfl) <| gu rfl rfl rfl (eqT cc36) (x_not' rfl) <| u rfl (x_pickTV (v := .bool (!y30.2)) rfl (eqT cc36) rfl) <| mv (.bool (!y30.2)) rfl ?_
   by_cases cc37 : y30.2 = true
   ·rw [if_pos cc37] at H
    refine gn rfl rfl rfl (noF cc37) <| gn rfl rfl rfl (noF cc37) <| u rfl (x_pickFV (v := .bool false) rfl (noF cc37) rfl) <| mv (.bool false) rfl <| rt ?_
    obtain rfl := si H
    exact ⟨_, ⟨_, rfl, rfl⟩, ⟨rfl, ((S.sel 6 [] rfl).weaken hI)⟩⟩
   rw [if_neg cc37] at H
   refine gu rfl rfl rfl (noT (vaF cc37)) (x_movV (v := (.slice (some ⟨b13, 0, none⟩) 1 1)) rfl) ?_
   obtain ⟨y38, hy39, H⟩ := obx H
   refine OK.gt rfl rfl rfl (noT (vaF cc37)) (cl fb12 (@policy_Right.ok k ([(T_api_Rule.mk ([(T_api_Cond.mk 1 false 0 0 (⟨#[]⟩) [(T_api_Range.mk (T_api_Prefix.mk 167772160 8) 8 24)] [])]) [(T_api_Deed.mk 1 200 0)] 1)]) _ _ _ _ _ hG S h15 hy39) rfl ?_)
   rintro _ w ⟨rfl, S⟩
   refine u rfl (x_pickTV (v := .bool y38) rfl (noT (vaF cc37)) rfl) <| mv (.bool y38) rfl <| rt ?_
   obtain rfl := si H
   exact ⟨_, ⟨_, rfl, rfl⟩, ⟨rfl, ((S.sel 6 [] rfl).weaken hI)⟩⟩
  rw [if_neg cc36] at H
  refine gn rfl rfl rfl (eqF cc36) <| gn rfl rfl rfl (eqF cc36) <| u rfl (x_pickFV (v := .bool false) rfl (eqF cc36) rfl) <| mv (.bool false) rfl <| gn rfl rfl rfl rfl <| gn rfl rfl rfl rfl <| u rfl (x_pickFV (v := .bool false) rfl rfl rfl) <| mv (.bool false) rfl <| rt ?_
  obtain rfl := si H
  exact ⟨_, ⟨_, rfl, rfl⟩, ⟨rfl, ((S.sel 6 [] rfl).weaken hI)⟩⟩
 rw [if_neg cc35] at H
 refine gn rfl rfl rfl (vaF cc35) <| gn rfl rfl rfl (vaF cc35) <| gn rfl rfl rfl (vaF cc35) <| u rfl (x_pickFV (v := .bool false) rfl (vaF cc35) rfl) <| mv (.bool false) rfl <| gn rfl rfl rfl rfl <| gn rfl rfl rfl rfl <| u rfl (x_pickFV (v := .bool false) rfl rfl rfl) <| mv (.bool false) rfl <| gn rfl rfl rfl rfl <| gn rfl rfl rfl rfl <| u rfl (x_pickFV (v := .bool false) rfl rfl rfl) <| mv (.bool false) rfl <| rt ?_
 obtain rfl := si H
 exact ⟨_, ⟨_, rfl, rfl⟩, ⟨rfl, ((S.sel 6 [] rfl).weaken hI)⟩⟩
def r02_Bit.l0 : Nat → Int → Int → Int → Option Int
  | 0, _, _, _ => none
  | k + 1, x1, n4, n5 => (if n5 > x1 then (r02_Bit.l0 k x1 (i64 (n4.tdiv 2)) (i64 (n5 - 1))) else (some n4))
def r02_Bit.f (k : Nat) (x0 : Int) (x1 : Int) : Option Int := (if x1 < 0 then (some 0) else (if x1 > 31 then (some 0) else ((r02_Bit.l0 k x1 (i64 x0) 31).bind fun n12 => (some (n12.tmod 2)))))
abbrev r02_Bit.C (k : Nat) : Prop := ∀ {x0 : Int} {x1 : Int} {F : List It} {I : IMem} {w : World} {r : Int}, Glob I → Own I w (F) → r02_Bit.f k x0 x1 = some r →
    Calls Tryz.prog 143 #[.int .u32 x0, .int .i64 x1] w fun e w' => ∃ v, e = .returned v ∧ v = .int .i64 r ∧ Own I w' (F)
theorem r02_Bit.ok (k : Nat) : r02_Bit.C k := by
 intro x0 x1 F I w r hG S H
 have hI := ilr I
 rw [r02_Bit.f] at H
 refine Calls.ofFW (args := [.int .u32 x0, .int .i64 x1]) Tryz.func143 rfl rfl <| sr <| mv (.int .i64 0) rfl <| sq <| sr <| mv (.int .i64 x1) rfl <| u rfl (x_bin rfl rfl rfl) <| mv (.bool (decide (x1 < 0))) rfl ?_
 by_cases cc1 : x1 < 0
 ·rw [if_pos cc1] at H
  refine gn rfl rfl rfl (deT cc1) <| gn rfl rfl rfl (deT cc1) <| u rfl (x_pickTV (v := .bool true) rfl (deT cc1) rfl) <| cT rfl rfl <| sr <| mv (.int .i64 0) rfl <| rt ?_
  obtain rfl := si H
  exact ⟨_, ⟨_, rfl, rfl⟩, ⟨rfl, (S.weaken hI)⟩⟩
 rw [if_neg cc1] at H
 refine gu rfl rfl rfl (deF cc1) (x_movV (v := .int .i64 x1) rfl) <| gu rfl rfl rfl (deF cc1) (x_bin rfl rfl rfl) <| u rfl (x_pickFV (v := .bool (decide (x1 > 31))) rfl (deF cc1) rfl) ?_
 by_cases cc2 : x1 > 31
 ·rw [if_pos cc2] at H
  refine cT rfl (deT cc2) <| sq <| FW.anew [] trivial fun σ => rg <| mv (.int .i64 0) rfl <| rt ?_
  obtain rfl := si H
  exact ⟨_, ⟨_, rfl, rfl⟩, ⟨rfl, (S.weaken hI)⟩⟩
 rw [if_neg cc2] at H
 refine cF rfl (deF cc2) <| sk <| sq <| FW.anew [(0, .int .u32 x0), (1, .int .i64 x1)] ⟨rfl, rfl, trivial⟩ fun σ => rg <| mv (.int .u32 x0) rfl <| u rfl (x_conv tint3 tint_23 rfl) <| mv (.int .i64 (i64 x0)) rfl <| sq <| sr <| mv (.int .i64 31) rfl <| bk ?_
 obtain ⟨o8, hl10, HO9⟩ := obx H
 refine FW.cutX 0 (fun σ w => ∃ (n12 : Int) (J11 : IMem), n12 = o8 ∧ Has σ [(5, .int .i64 n12)] ∧ I.le J11 ∧ Own J11 w (F)) ?_ ?_
 ·refine FW.loop k (FL.ind (fun q σ w => ∃ (n4 : Int) (n5 : Int) (J3 : IMem), r02_Bit.l0 q x1 n4 n5 = some o8 ∧ q ≤ k ∧ Has σ [(1, .int .i64 x1), (5, .int .i64 n4), (6, .int .i64 n5)] ∧ I.le J3 ∧ Own J3 w (F)) ?_ ?_ k k _ _ (Nat.le_refl _) ⟨(i64 x0), 31, I, hl10, Nat.le_refl _, ⟨rfl, rfl, rfl, trivial⟩, (ilr _), S⟩)
  ·rintro σ w ⟨n4, n5, J3, H, _⟩; cases H
  rintro q6 σ w ⟨n4, n5, J3, H, hq13, hσ, hL7, S⟩
  rw [hσ.eq]
  rw [r02_Bit.l0] at H
  refine sq <| sr <| mv (.int .i64 n5) rfl <| mv (.int .i64 x1) rfl <| u rfl (x_bin rfl rfl rfl) ?_
  by_cases cc14 : n5 > x1
  ·rw [if_pos cc14] at H
   refine cT rfl (deT cc14) <| sk <| sq <| bk <| rg <| mv (.int .i64 n4) rfl <| u rfl (x_quo rfl rfl (by decide)) <| mv (.int .i64 (i64 (n4.tdiv 2))) rfl <| rg <| mv (.int .i64 n5) rfl <| u rfl (x_bin rfl rfl rfl) <| mv (.int .i64 (i64 (n5 - 1))) rfl ⟨q6, Nat.le_refl _, (i64 (n4.tdiv 2)), (i64 (n5 - 1)), J3, H, (Nat.le_of_succ_le hq13), ⟨rfl, rfl, rfl, trivial⟩, hL7, S⟩
  rw [if_neg cc14] at H
  refine cF rfl (deF cc14) <| ex ⟨n4, J3, (si H), ⟨rfl, trivial⟩, hL7, S⟩
 rintro σ w ⟨n12, J11, ho, hσ, hL7, S⟩
 subst ho
 have H := HO9
 have hI := hI.trans hL7
 rw [hσ.eq]
 refine sr <| mv (.int .i64 n12) rfl <| u rfl (x_rem rfl rfl (by decide)) <| mv (.int .i64 (n12.tmod 2)) rfl <| rt ?_
 obtain rfl := si H
 exact ⟨_, ⟨_, rfl, rfl⟩, ⟨rfl, (S.weaken hI)⟩⟩
def r02_Norm.l0 : Nat → Int → Int → Int → Int → Option Int
  | 0, _, _, _, _ => none
  | k + 1, x0, n9, n15, n16 => (if n16 < 32 then (if n16 < n9 then ((r02_Bit.f k x0 n16).bind fun y27 => (r02_Norm.l0 k x0 n9 (i64 ((i64 (2 * n15)) + y27)) (i64 (n16 + 1)))) else (r02_Norm.l0 k x0 n9 (i64 (2 * n15)) (i64 (n16 + 1)))) else (some n15))
def r02_Norm.f (k : Nat) (x0 : Int) (x1 : Int) : Option T_api_Prefix := ((if x1 < 0 then (some 0) else (some x1)).bind fun n3 => ((if n3 > 32 then (some 32) else (some n3)).bind fun n9 => ((r02_Norm.l0 k x0 n9 0 0).bind fun n23 => (some (T_api_Prefix.mk (u32 n23) n9)))))
abbrev r02_Norm.C (k : Nat) : Prop := ∀ {x0 : Int} {x1 : Int} {F : List It} {I : IMem} {w : World} {r : T_api_Prefix}, Glob I → Own I w (F) → r02_Norm.f k x0 x1 = some r →
    Calls Tryz.prog 118 #[.int .u32 x0, .int .i64 x1] w fun e w' => ∃ v, e = .returned v ∧ v = .agg #[.int .u32 r.Addr, .int .i64 r.Len] ∧ Own I w' (F)
theorem r02_Norm.ok (k : Nat) : r02_Norm.C k := by
 intro x0 x1 F I w r hG S H
 have hI := ilr I
 rw [r02_Norm.f] at H
 refine Calls.ofFW (args := [.int .u32 x0, .int .i64 x1]) Tryz.func118 rfl rfl <| sr <| g rfl (o_all tz36 S fun b1 w S => sq (rg (mv (.int .i64 x1) rfl (mv (.int .i64 x1) rfl (sq (sq (rg (mv (.int .i64 x1) rfl (u rfl (x_bin rfl rfl rfl) ?_)))))))))
 obtain ⟨o4, H, HO5⟩ := obx H
 have hL6 := ilr I
 refine FW.cutN (fun σ w => ∃ (n3 : Int) (J2 : IMem), n3 = o4 ∧ Has σ [(0, .int .u32 x0), (4, pt b1), (5, .int .i64 n3)] ∧ I.le J2 ∧ Own J2 w (.bk b1 36 [.int .u32 0, .int .i64 0] :: F)) ?_ ?_
 ·by_cases cc7 : x1 < 0
  ·rw [if_pos cc7] at H
   refine cT rfl (deT cc7) <| rg <| mv (.int .i64 0) rfl ⟨0, I, (si H), ⟨rfl, rfl, rfl, trivial⟩, hL6, S⟩
  rw [if_neg cc7] at H
  refine cF rfl (deF cc7) <| sk ⟨x1, I, (si H), ⟨rfl, rfl, rfl, trivial⟩, hL6, S⟩
 rintro σ w ⟨n3, J2, ho, hσ, hL6, S⟩
 subst ho
 have H := HO5
 have hI := hI.trans hL6
 have hG := hG.mono hL6
 rw [hσ.eq]
 refine sq <| sr <| mv (.int .i64 n3) rfl <| u rfl (x_bin rfl rfl rfl) ?_
 obtain ⟨o10, H, HO11⟩ := obx H
 have hL12 := ilr J2
 refine FW.cutN (fun σ w => ∃ (n9 : Int) (J8 : IMem), n9 = o10 ∧ Has σ [(0, .int .u32 x0), (4, pt b1), (5, .int .i64 n9)] ∧ J2.le J8 ∧ Own J8 w (.bk b1 36 [.int .u32 0, .int .i64 0] :: F)) ?_ ?_
 ·by_cases cc13 : n3 > 32
  ·rw [if_pos cc13] at H
   refine cT rfl (deT cc13) <| rg <| mv (.int .i64 32) rfl ⟨32, J2, (si H), ⟨rfl, rfl, rfl, trivial⟩, hL12, S⟩
  rw [if_neg cc13] at H
  refine cF rfl (deF cc13) <| sk ⟨n3, J2, (si H), ⟨rfl, rfl, rfl, trivial⟩, hL12, S⟩
 rintro σ w ⟨n9, J8, ho, hσ, hL12, S⟩
 subst ho
 have H := HO11
 have hI := hI.trans hL12
 have hG := hG.mono hL12
 rw [hσ.eq]
 refine sr <| mv (.int .i64 0) rfl <| sq <| sr <| mv (.int .i64 0) rfl <| bk ?_
 obtain ⟨o19, hl21, HO20⟩ := obx H
 refine FW.cutX 0 (fun σ w => ∃ (n23 : Int) (J22 : IMem), n23 = o19 ∧ Has σ [(4, pt b1), (5, .int .i64 n9), (6, .int .i64 n23)] ∧ J8.le J22 ∧ Own J22 w (.bk b1 36 [.int .u32 0, .int .i64 0] :: F)) ?_ ?_
 ·refine FW.loop k (FL.ind (fun q σ w => ∃ (n15 : Int) (n16 : Int) (J14 : IMem), r02_Norm.l0 q x0 n9 n15 n16 = some o19 ∧ q ≤ k ∧ Has σ [(0, .int .u32 x0), (4, pt b1), (5, .int .i64 n9), (6, .int .i64 n15), (7, .int .i64 n16)] ∧ J8.le J14 ∧ Own J14 w (.bk b1 36 [.int .u32 0, .int .i64 0] :: F)) ?_ ?_ k k _ _ (Nat.le_refl _) ⟨0, 0, J8, hl21, Nat.le_refl _, ⟨rfl, rfl, rfl, rfl, rfl, trivial⟩, (ilr _), S⟩)
  ·rintro σ w ⟨n15, n16, J14, H, _⟩; cases H
  rintro q17 σ w ⟨n15, n16, J14, H, hq24, hσ, hL18, S⟩
  have hG := hG.mono hL18
  rw [hσ.eq]
  rw [r02_Norm.l0] at H
  refine sq <| sr <| mv (.int .i64 n16) rfl <| u rfl (x_bin rfl rfl rfl) ?_
  by_cases cc25 : n16 < 32
  ·rw [if_pos cc25] at H
   refine cT rfl (deT cc25) <| sk <| sq <| bk <| sr <| mv (.int .i64 n15) rfl <| u rfl (x_bin rfl rfl rfl) <| mv (.int .i64 (i64 (2 * n15))) rfl <| sr <| mv (.int .i64 n16) rfl <| mv (.int .i64 n9) rfl <| u rfl (x_bin rfl rfl rfl) ?_
   by_cases cc26 : n16 < n9
   ·rw [if_pos cc26] at H
    refine cT rfl (deT cc26) <| FW.anew [(0, .int .u32 x0), (4, pt b1), (5, .int .i64 n9), (6, .int .i64 (i64 (2 * n15))), (7, .int .i64 n16)] ⟨rfl, rfl, rfl, rfl, rfl, trivial⟩ fun σ => rg <| mv (.int .i64 (i64 (2 * n15))) rfl <| mv (.int .u32 x0) rfl <| mv (.int .i64 n16) rfl ?_
    obtain ⟨y27, hy28, H⟩ := obx H
    refine g rfl (cl fb143 (@r02_Bit.ok q17 x0 n16 _ _ _ _ hG S hy28) rfl ?_)
    rintro _ w ⟨rfl, S⟩
    refine u rfl (x_bin rfl rfl rfl) <| mv (.int .i64 (i64 ((i64 (2 * n15)) + y27))) rfl <| rg <| mv (.int .i64 n16) rfl <| u rfl (x_bin rfl rfl rfl) <| mv (.int .i64 (i64 (n16 + 1))) rfl ⟨q17, Nat.le_refl _, (i64 ((i64 (2 * n15)) + y27)), (i64 (n16 + 1)), J14, H, (Nat.le_of_succ_le hq24), ⟨rfl, rfl, rfl, rfl, rfl, trivial⟩, hL18, S⟩
   rw [if_neg cc26] at H
   refine cF rfl (deF cc26) <| sk <| FW.anew [(0, .int .u32 x0), (4, pt b1), (5, .int .i64 n9), (6, .int .i64 (i64 (2 * n15))), (7, .int .i64 n16)] ⟨rfl, rfl, rfl, rfl, rfl, trivial⟩ fun σ => rg <| mv (.int .i64 n16) rfl <| u rfl (x_bin rfl rfl rfl) <| mv (.int .i64 (i64 (n16 + 1))) rfl ⟨q17, Nat.le_refl _, (i64 (2 * n15)), (i64 (n16 + 1)), J14, H, (Nat.le_of_succ_le hq24), ⟨rfl, rfl, rfl, rfl, rfl, trivial⟩, hL18, S⟩
  rw [if_neg cc25] at H
  refine cF rfl (deF cc25) <| ex ⟨n15, J14, (si H), ⟨rfl, rfl, rfl, trivial⟩, hL18, S⟩
 rintro σ w ⟨n23, J22, ho, hσ, hL18, S⟩
 subst ho
 have H := HO20
 have hI := hI.trans hL18
 rw [hσ.eq]
 refine sr <| mv (.int .i64 n23) rfl <| u rfl (x_conv tint23 tint_3 rfl) <| mv (.int .i64 n9) rfl <| u rfl (x_bld tz36 tpl36 rfl (.one rfl (.one rfl PC.nil)) rfl) <| g rfl (o_stA tag36 S 0 rfl rfl rfl rfl (c1 rfl (c1 rfl c0)) rfl fun w S => rt ?_)
 obtain rfl := si H
 exact ⟨_, ⟨_, _, _, rfl, rfl, ldA tag36 (S.loadW 0 rfl) rfl, rfl⟩, ⟨rfl, ((S.sel 1 [] rfl).weaken hI)⟩⟩
def r02_Right.f (k : Nat) (x0 : T_api_Prefix) : Option Bool := ((r02_Norm.f k x0.Addr x0.Len).bind fun y3 => (some (y3.Addr == x0.Addr && y3.Len == x0.Len)))
abbrev r02_Right.C (k : Nat) : Prop := ∀ {x0 : T_api_Prefix} {F : List It} {I : IMem} {w : World} {r : Bool}, Glob I → Own I w (F) → r02_Right.f k x0 = some r →
    Calls Tryz.prog 85 #[.agg #[.int .u32 x0.Addr, .int .i64 x0.Len]] w fun e w' => ∃ v, e = .returned v ∧ v = .bool r ∧ Own I w' (F)
theorem r02_Right.ok (k : Nat) : r02_Right.C k := by
 intro x0 F I w r hG S H
 have hI := ilr I
 rw [r02_Right.f] at H
 refine Calls.ofFW (args := [.agg #[.int .u32 x0.Addr, .int .i64 x0.Len]]) Tryz.func85 rfl rfl <| sr <| g rfl (o_boxA rfl S fun b1 w S => mv (.bool false) rfl (sq ?_))
 have S := S.drew
 refine FW.regionD mixed ?_
 have hO := Hold.nil (w := { w with drawn := w.drawn + 1 })
 refine ap 0 rfl (by kernel_rfl) hO (fun w => x_fa tf36_0 rfl) ?_
 have hR2 := ilr I
 refine ak (Stab I [.bk b1 36 [.int .u32 x0.Addr, .int .i64 x0.Len]]) 1 rfl (by kernel_rfl) hO (Stab.of S 0 rfl hR2) (fun w hS => x_ld tsc23 rfl (hS.load 0 rfl 0 rfl)) fun hO => ap 2 rfl (by kernel_rfl) hO (fun w => x_fa tf36_1 rfl) <| ak (Stab I [.bk b1 36 [.int .u32 x0.Addr, .int .i64 x0.Len]]) 3 rfl (by kernel_rfl) hO (Stab.of S 0 rfl hR2) (fun w hS => x_ld tsc3 rfl (hS.load 0 rfl 1 rfl)) fun hO => ak (Stab I [.bk b1 36 [.int .u32 x0.Addr, .int .i64 x0.Len]]) 5 rfl (by kernel_rfl) hO (Stab.of S 0 rfl hR2) (fun w hS => x_ldA tag36 rfl (hS.loadW 0 rfl) rfl) fun hO => AQ.one 4 [5, 3, 1] [true, false, false] (by kernel_rfl) rfl (by kernel_rfl) ?_
 obtain ⟨y3, hy4, H⟩ := obx H
 refine g rfl (cl fb118 (@r02_Norm.ok k x0.Addr x0.Len _ _ _ _ hG S hy4) rfl ?_)
 rintro _ w ⟨rfl, S⟩
 refine andI (Hold.cons (Stab.of S 0 rfl hR2) Hold.nil) fun hO => ap 6 rfl (by kernel_rfl) hO (fun w => x_e2 te2_36 rfl rfl) <| ap 7 rfl (by kernel_rfl) hO (fun w => x_asgV (v := .bool (y3.Addr == x0.Addr && y3.Len == x0.Len)) rfl) <| AQ.done (by kernel_rfl) <| rt ?_
 obtain rfl := si H
 exact ⟨_, ⟨_, rfl, rfl⟩, ⟨rfl, ((S.sel 1 [] rfl).weaken hI)⟩⟩
def r12_Right.f (k : Nat) (x0 : T_api_Range) : Option Bool := ((r02_Right.f k x0.Prefix).bind fun y2 => (if y2 = true then (if x0.Min ≥ x0.Prefix.Len then (if x0.Max ≥ x0.Min then (some (decide (x0.Max ≤ 32))) else (some false)) else (some false)) else (some false)))
abbrev r12_Right.C (k : Nat) : Prop := ∀ {x0 : T_api_Range} {F : List It} {I : IMem} {w : World} {r : Bool}, Glob I → Own I w (F) → r12_Right.f k x0 = some r →
    Calls Tryz.prog 44 #[.agg #[.int .u32 x0.Prefix.Addr, .int .i64 x0.Prefix.Len, .int .i64 x0.Min, .int .i64 x0.Max]] w fun e w' => ∃ v, e = .returned v ∧ v = .bool r ∧ Own I w' (F)
theorem r12_Right.ok (k : Nat) : r12_Right.C k := by
 intro x0 F I w r hG S H
 have hI := ilr I
 rw [r12_Right.f] at H
 refine Calls.ofFW (args := [.agg #[.int .u32 x0.Prefix.Addr, .int .i64 x0.Prefix.Len, .int .i64 x0.Min, .int .i64 x0.Max]]) Tryz.func44 rfl rfl <| sr <| g rfl (o_boxA rfl S fun b1 w S => mv (.bool false) rfl (sq (rg (u rfl (x_fa tf69_0 rfl) (u rfl (x_ldA tag36 rfl (S.loadN 0 rfl 0 2) rfl) ?_)))))
 obtain ⟨y2, hy3, H⟩ := obx H
 refine g rfl (cl fb85 (@r02_Right.ok k x0.Prefix _ _ _ _ hG S hy3) rfl ?_)
 rintro _ w ⟨rfl, S⟩
 refine mv (.bool y2) rfl ?_
 by_cases cc4 : y2 = true
 ·rw [if_pos cc4] at H
  refine gu rfl rfl rfl cc4 (x_fa tf69_1 rfl) <| gu rfl rfl rfl cc4 (x_ld tsc3 rfl (S.load 0 rfl 2 rfl)) <| gu rfl rfl rfl cc4 (x_fa tf69_0 rfl) <| gu rfl rfl rfl cc4 (x_fa tf36_1 rfl) <| gu rfl rfl rfl cc4 (x_ld tsc3 rfl (S.load 0 rfl 1 rfl)) <| gu rfl rfl rfl cc4 (x_bin rfl rfl rfl) <| u rfl (x_pickTV (v := .bool (decide (x0.Min ≥ x0.Prefix.Len))) rfl cc4 rfl) <| mv (.bool (decide (x0.Min ≥ x0.Prefix.Len))) rfl ?_
  by_cases cc5 : x0.Min ≥ x0.Prefix.Len
  ·rw [if_pos cc5] at H
   refine gu rfl rfl rfl (deT cc5) (x_fa tf69_2 rfl) <| gu rfl rfl rfl (deT cc5) (x_ld tsc3 rfl (S.load 0 rfl 3 rfl)) <| gu rfl rfl rfl (deT cc5) (x_fa tf69_1 rfl) <| gu rfl rfl rfl (deT cc5) (x_ld tsc3 rfl (S.load 0 rfl 2 rfl)) <| gu rfl rfl rfl (deT cc5) (x_bin rfl rfl rfl) <| u rfl (x_pickTV (v := .bool (decide (x0.Max ≥ x0.Min))) rfl (deT cc5) rfl) <| mv (.bool (decide (x0.Max ≥ x0.Min))) rfl ?_
   by_cases cc6 : x0.Max ≥ x0.Min
   ·rw [if_pos cc6] at H
    refine gu rfl rfl rfl (deT cc6) (x_fa tf69_2 rfl) <| gu rfl rfl rfl (deT cc6) (x_ld tsc3 rfl (S.load 0 rfl 3 rfl)) <| gu rfl rfl rfl (deT cc6) (x_bin rfl rfl rfl) <| u rfl (x_pickTV (v := .bool (decide (x0.Max ≤ 32))) rfl (deT cc6) rfl) <| mv (.bool (decide (x0.Max ≤ 32))) rfl <| rt ?_
    obtain rfl := si H
    exact ⟨_, ⟨_, rfl, rfl⟩, ⟨rfl, ((S.sel 1 [] rfl).weaken hI)⟩⟩
   rw [if_neg cc6] at H
   refine gn rfl rfl rfl (deF cc6) <| gn rfl rfl rfl (deF cc6) <| gn rfl rfl rfl (deF cc6) <| u rfl (x_pickFV (v := .bool false) rfl (deF cc6) rfl) <| mv (.bool false) rfl <| rt ?_
   obtain rfl := si H
   exact ⟨_, ⟨_, rfl, rfl⟩, ⟨rfl, ((S.sel 1 [] rfl).weaken hI)⟩⟩
  rw [if_neg cc5] at H
  refine gn rfl rfl rfl (deF cc5) <| gn rfl rfl rfl (deF cc5) <| gn rfl rfl rfl (deF cc5) <| gn rfl rfl rfl (deF cc5) <| gn rfl rfl rfl (deF cc5) <| u rfl (x_pickFV (v := .bool false) rfl (deF cc5) rfl) <| mv (.bool false) rfl <| gn rfl rfl rfl rfl <| gn rfl rfl rfl rfl <| gn rfl rfl rfl rfl <| u rfl (x_pickFV (v := .bool false) rfl rfl rfl) <| mv (.bool false) rfl <| rt ?_
  obtain rfl := si H
  exact ⟨_, ⟨_, rfl, rfl⟩, ⟨rfl, ((S.sel 1 [] rfl).weaken hI)⟩⟩
 rw [if_neg cc4] at H
 refine gn rfl rfl rfl (vaF cc4) <| gn rfl rfl rfl (vaF cc4) <| gn rfl rfl rfl (vaF cc4) <| gn rfl rfl rfl (vaF cc4) <| gn rfl rfl rfl (vaF cc4) <| gn rfl rfl rfl (vaF cc4) <| u rfl (x_pickFV (v := .bool false) rfl (vaF cc4) rfl) <| mv (.bool false) rfl <| gn rfl rfl rfl rfl <| gn rfl rfl rfl rfl <| gn rfl rfl rfl rfl <| gn rfl rfl rfl rfl <| gn rfl rfl rfl rfl <| u rfl (x_pickFV (v := .bool false) rfl rfl rfl) <| mv (.bool false) rfl <| gn rfl rfl rfl rfl <| gn rfl rfl rfl rfl <| gn rfl rfl rfl rfl <| u rfl (x_pickFV (v := .bool false) rfl rfl rfl) <| mv (.bool false) rfl <| rt ?_
 obtain rfl := si H
 exact ⟨_, ⟨_, rfl, rfl⟩, ⟨rfl, ((S.sel 1 [] rfl).weaken hI)⟩⟩
def r11_P_sign.l0 : Nat → T_r11_P → Int → Option Int
  | 0, _, _ => none
  | k + 1, x0, n2 => (if n2 < (x0.S.size : Int) then ((sat x0.S n2).bind fun y13 => (if y13 = 32 then (r11_P_sign.l0 k x0 (i64 (n2 + 1))) else ((sat x0.S n2).bind fun y16 => (if y16 = 95 then (r11_P_sign.l0 k x0 (i64 (n2 + 1))) else (some n2))))) else (some n2))
def r11_P_sign.f (k : Nat) (x0 : T_r11_P) : Option (Int × T_r11_P) := ((r11_P_sign.l0 k x0 x0.At).bind fun n9 => (if n9 = (x0.S.size : Int) then (some (0, (T_r11_P.mk x0.S n9 x0.N x0.Bad))) else ((sat x0.S n9).bind fun y22 => (some (y22, (T_r11_P.mk x0.S n9 x0.N x0.Bad))))))
abbrev r11_P_sign.C (k : Nat) : Prop := ∀ {x0 : T_r11_P} {x0v2 : Value} {bx0 : Nat} {F : List It} {I : IMem} {w : World} {r : Int × T_r11_P}, Glob I → Own I w (.bk bx0 135 [.string x0.S, .int .i64 x0.At, x0v2, .bool x0.Bad] :: .tv x0v2 163 6 :: F) → SlR R_r11_Node I x0v2 x0.N → r11_P_sign.f k x0 = some r →
    Calls Tryz.prog 87 #[pt bx0] w fun e w' => ∃ v, e = .returned v ∧ ∃ (y_1v2 : Value) (J : IMem), I.le J ∧ v = .int .u8 r.1 ∧ SlR R_r11_Node J y_1v2 r.2.N ∧ Own J w' (.bk bx0 135 [.string r.2.S, .int .i64 r.2.At, y_1v2, .bool r.2.Bad] :: .tv y_1v2 163 6 :: F)
theorem r11_P_sign.ok (k : Nat) : r11_P_sign.C k := by
 intro x0 x0v2 bx0 F I w r hG S x0h2 H
 have hI := ilr I
 rw [r11_P_sign.f] at H
 refine Calls.ofFW (args := [pt bx0]) Tryz.func87 rfl rfl <| sr <| mv (.int .u8 0) rfl <| sq <| bk ?_
 obtain ⟨o5, hl7, HO6⟩ := obx H
 refine FW.cutX 0 (fun σ w => ∃ (n9 : Int) (J8 : IMem), n9 = o5 ∧ Has σ [(0, pt bx0)] ∧ I.le J8 ∧ Own J8 w (.bk bx0 135 [.string x0.S, .int .i64 n9, x0v2, .bool x0.Bad] :: .tv x0v2 163 6 :: F)) ?_ ?_
 ·refine FW.loop k (FL.ind (fun q σ w => ∃ (n2 : Int) (J1 : IMem), r11_P_sign.l0 q x0 n2 = some o5 ∧ q ≤ k ∧ Has σ [(0, pt bx0)] ∧ I.le J1 ∧ Own J1 w (.bk bx0 135 [.string x0.S, .int .i64 n2, x0v2, .bool x0.Bad] :: .tv x0v2 163 6 :: F)) ?_ ?_ k k _ _ (Nat.le_refl _) ⟨x0.At, I, hl7, Nat.le_refl _, ⟨rfl, trivial⟩, (ilr _), S⟩)
  ·rintro σ w ⟨n2, J1, H, _⟩; cases H
  rintro q3 σ w ⟨n2, J1, H, hq10, hσ, hL4, S⟩
  rw [hσ.eq]
  rw [r11_P_sign.l0] at H
  refine sq <| sq ?_
  have S := S.drew
  refine FW.regionD mixed ?_
  have hO := Hold.nil (w := { w with drawn := w.drawn + 1 })
  refine am 0 (pt bx0) rfl (by kernel_rfl) hO <| ap 1 rfl (by kernel_rfl) hO (fun w => x_nk rfl) <| ap 2 rfl (by kernel_rfl) hO (fun w => x_fa tf135_1 rfl) ?_
  have hR11 := ilr J1
  refine ak (Stab J1 [.bk bx0 135 [.string x0.S, .int .i64 n2, x0v2, .bool x0.Bad]]) 3 rfl (by kernel_rfl) hO (Stab.of S 0 rfl hR11) (fun w hS => x_ld tsc3 rfl (hS.load 0 rfl 1 rfl)) fun hO => am 4 (pt bx0) rfl (by kernel_rfl) hO <| ap 5 rfl (by kernel_rfl) hO (fun w => x_nk rfl) <| ap 6 rfl (by kernel_rfl) hO (fun w => x_fa tf135_0 rfl) <| ak (Stab J1 [.bk bx0 135 [.string x0.S, .int .i64 n2, x0v2, .bool x0.Bad]]) 7 rfl (by kernel_rfl) hO (Stab.of S 0 rfl hR11) (fun w hS => x_ld tsc9 rfl (hS.load 0 rfl 0 rfl)) fun hO => ap 8 rfl (by kernel_rfl) hO (fun w => x_lens tstr9 rfl) <| ap 9 rfl (by kernel_rfl) hO (fun w => x_bin rfl rfl rfl) <| am 10 (.bool (decide (n2 < (x0.S.size : Int)))) rfl (by kernel_rfl) hO ?_
  by_cases cc12 : n2 < (x0.S.size : Int)
  ·rw [if_pos cc12] at H
   refine AQ.pure 11 rfl (by kernel_rfl) (by kernel_rfl) (by kernel_rfl) (gT rfl rfl (deT cc12)) hO (fun w => x_movV (v := pt bx0) rfl) <| AQ.pure 12 rfl (by kernel_rfl) (by kernel_rfl) (by kernel_rfl) (gT rfl rfl (deT cc12)) hO (fun w => x_nk rfl) <| AQ.pure 13 rfl (by kernel_rfl) (by kernel_rfl) (by kernel_rfl) (gT rfl rfl (deT cc12)) hO (fun w => x_fa tf135_0 rfl) <| AQ.take (S := Stab J1 [.bk bx0 135 [.string x0.S, .int .i64 n2, x0v2, .bool x0.Bad]]) 14 rfl (by kernel_rfl) (by kernel_rfl) (by kernel_rfl) (gT rfl rfl (deT cc12)) hO (Stab.of S 0 rfl hR11) (fun w hS => x_ld tsc9 rfl (hS.load 0 rfl 0 rfl)) fun hO => AQ.pure 15 rfl (by kernel_rfl) (by kernel_rfl) (by kernel_rfl) (gT rfl rfl (deT cc12)) hO (fun w => x_movV (v := pt bx0) rfl) <| AQ.pure 16 rfl (by kernel_rfl) (by kernel_rfl) (by kernel_rfl) (gT rfl rfl (deT cc12)) hO (fun w => x_nk rfl) <| AQ.pure 17 rfl (by kernel_rfl) (by kernel_rfl) (by kernel_rfl) (gT rfl rfl (deT cc12)) hO (fun w => x_fa tf135_1 rfl) <| AQ.take (S := Stab J1 [.bk bx0 135 [.string x0.S, .int .i64 n2, x0v2, .bool x0.Bad]]) 18 rfl (by kernel_rfl) (by kernel_rfl) (by kernel_rfl) (gT rfl rfl (deT cc12)) hO (Stab.of S 0 rfl hR11) (fun w hS => x_ld tsc3 rfl (hS.load 0 rfl 1 rfl)) fun hO => ?_
   obtain ⟨y13, h14, H⟩ := obx H
   refine AQ.pure 19 rfl (by kernel_rfl) (by kernel_rfl) (by kernel_rfl) (gT rfl rfl (deT cc12)) hO (fun w => x_sat tstr9 rfl rfl h14) <| AQ.pure 20 rfl (by kernel_rfl) (by kernel_rfl) (by kernel_rfl) (gT rfl rfl (deT cc12)) hO (fun w => x_bin rfl rfl rfl) <| AQ.pure 21 rfl (by kernel_rfl) (by kernel_rfl) (by kernel_rfl) (gT rfl rfl (deT cc12)) hO (fun w => x_movV (v := .bool (y13 == 32)) rfl) ?_
   by_cases cc15 : y13 = 32
   ·rw [if_pos cc15] at H
    refine AQ.skip 22 rfl (by kernel_rfl) (by kernel_rfl) (by kernel_rfl) rfl rfl (eqT cc15) hO <| AQ.skip 23 rfl (by kernel_rfl) (by kernel_rfl) (by kernel_rfl) rfl rfl (eqT cc15) hO <| AQ.skip 24 rfl (by kernel_rfl) (by kernel_rfl) (by kernel_rfl) rfl rfl (eqT cc15) hO <| AQ.skip 25 rfl (by kernel_rfl) (by kernel_rfl) (by kernel_rfl) rfl rfl (eqT cc15) hO <| AQ.skip 26 rfl (by kernel_rfl) (by kernel_rfl) (by kernel_rfl) rfl rfl (eqT cc15) hO <| AQ.skip 27 rfl (by kernel_rfl) (by kernel_rfl) (by kernel_rfl) rfl rfl (eqT cc15) hO <| AQ.skip 28 rfl (by kernel_rfl) (by kernel_rfl) (by kernel_rfl) rfl rfl (eqT cc15) hO <| AQ.skip 29 rfl (by kernel_rfl) (by kernel_rfl) (by kernel_rfl) rfl rfl (eqT cc15) hO <| AQ.skip 30 rfl (by kernel_rfl) (by kernel_rfl) (by kernel_rfl) rfl rfl (eqT cc15) hO <| AQ.skip 31 rfl (by kernel_rfl) (by kernel_rfl) (by kernel_rfl) rfl rfl (eqT cc15) hO <| AQ.pure 32 rfl (by kernel_rfl) (by kernel_rfl) (by kernel_rfl) (gT rfl rfl (deT cc12)) hO (fun w => x_pickTV (v := .bool true) rfl (eqT cc15) rfl) <| ap 33 rfl (by kernel_rfl) hO (fun w => x_pickTV (v := .bool true) rfl (deT cc12) rfl) <| AQ.done (by kernel_rfl) <| cT rfl rfl <| sk <| bk <| FW.anew [(0, pt bx0)] ⟨rfl, trivial⟩ fun σ => rg <| mv (pt bx0) rfl <| mv (pt bx0) rfl <| u rfl (x_nk rfl) <| u rfl (x_fa tf135_1 rfl) <| u rfl (x_ld tsc3 rfl (S.load 0 rfl 1 rfl)) <| u rfl (x_bin rfl rfl rfl) <| u rfl (x_nk rfl) <| u rfl (x_fa tf135_1 rfl) <| g rfl (o_st tone3 S 0 rfl rfl rfl rfl fun w S => ⟨q3, Nat.le_refl _, (i64 (n2 + 1)), J1, H, (Nat.le_of_succ_le hq10), ⟨rfl, trivial⟩, hL4, S⟩)
   rw [if_neg cc15] at H
   refine AQ.pure 22 rfl (by kernel_rfl) (by kernel_rfl) (by kernel_rfl) (gT rfl rfl (eqF cc15)) hO (fun w => x_movV (v := pt bx0) rfl) <| AQ.pure 23 rfl (by kernel_rfl) (by kernel_rfl) (by kernel_rfl) (gT rfl rfl (eqF cc15)) hO (fun w => x_nk rfl) <| AQ.pure 24 rfl (by kernel_rfl) (by kernel_rfl) (by kernel_rfl) (gT rfl rfl (eqF cc15)) hO (fun w => x_fa tf135_0 rfl) <| AQ.take (S := Stab J1 [.bk bx0 135 [.string x0.S, .int .i64 n2, x0v2, .bool x0.Bad]]) 25 rfl (by kernel_rfl) (by kernel_rfl) (by kernel_rfl) (gT rfl rfl (eqF cc15)) hO (Stab.of S 0 rfl hR11) (fun w hS => x_ld tsc9 rfl (hS.load 0 rfl 0 rfl)) fun hO => AQ.pure 26 rfl (by kernel_rfl) (by kernel_rfl) (by kernel_rfl) (gT rfl rfl (eqF cc15)) hO (fun w => x_movV (v := pt bx0) rfl) <| AQ.pure 27 rfl (by kernel_rfl) (by kernel_rfl) (by kernel_rfl) (gT rfl rfl (eqF cc15)) hO (fun w => x_nk rfl) <| AQ.pure 28 rfl (by kernel_rfl) (by kernel_rfl) (by kernel_rfl) (gT rfl rfl (eqF cc15)) hO (fun w => x_fa tf135_1 rfl) <| AQ.take (S := Stab J1 [.bk bx0 135 [.string x0.S, .int .i64 n2, x0v2, .bool x0.Bad]]) 29 rfl (by kernel_rfl) (by kernel_rfl) (by kernel_rfl) (gT rfl rfl (eqF cc15)) hO (Stab.of S 0 rfl hR11) (fun w hS => x_ld tsc3 rfl (hS.load 0 rfl 1 rfl)) fun hO => ?_
   obtain ⟨y16, h17, H⟩ := obx H
   refine AQ.pure 30 rfl (by kernel_rfl) (by kernel_rfl) (by kernel_rfl) (gT rfl rfl (eqF cc15)) hO (fun w => x_sat tstr9 rfl rfl h17) <| AQ.pure 31 rfl (by kernel_rfl) (by kernel_rfl) (by kernel_rfl) (gT rfl rfl (eqF cc15)) hO (fun w => x_bin rfl rfl rfl) <| AQ.pure 32 rfl (by kernel_rfl) (by kernel_rfl) (by kernel_rfl) (gT rfl rfl (deT cc12)) hO (fun w => x_pickFV (v := .bool (y16 == 95)) rfl (eqF cc15) rfl) <| ap 33 rfl (by kernel_rfl) hO (fun w => x_pickTV (v := .bool (y16 == 95)) rfl (deT cc12) rfl) <| AQ.done (by kernel_rfl) ?_
   by_cases cc18 : y16 = 95
   ·rw [if_pos cc18] at H
    refine cT rfl (eqT cc18) <| sk <| bk <| FW.anew [(0, pt bx0)] ⟨rfl, trivial⟩ fun σ => rg <| mv (pt bx0) rfl <| mv (pt bx0) rfl <| u rfl (x_nk rfl) <| u rfl (x_fa tf135_1 rfl) <| u rfl (x_ld tsc3 rfl (S.load 0 rfl 1 rfl)) <| u rfl (x_bin rfl rfl rfl) <| u rfl (x_nk rfl) <| u rfl (x_fa tf135_1 rfl) <| g rfl (o_st tone3 S 0 rfl rfl rfl rfl fun w S => ⟨q3, Nat.le_refl _, (i64 (n2 + 1)), J1, H, (Nat.le_of_succ_le hq10), ⟨rfl, trivial⟩, hL4, S⟩)
   rw [if_neg cc18] at H
   refine cF rfl (eqF cc18) <| ex ⟨n2, J1, (si H), ⟨rfl, trivial⟩, hL4, S⟩
  rw [if_neg cc12] at H
  refine AQ.skip 11 rfl (by kernel_rfl) (by kernel_rfl) (by kernel_rfl) rfl rfl (deF cc12) hO <| AQ.skip 12 rfl (by kernel_rfl) (by kernel_rfl) (by kernel_rfl) rfl rfl (deF cc12) hO <| AQ.skip 13 rfl (by kernel_rfl) (by kernel_rfl) (by kernel_rfl) rfl rfl (deF cc12) hO <| AQ.skip 14 rfl (by kernel_rfl) (by kernel_rfl) (by kernel_rfl) rfl rfl (deF cc12) hO <| AQ.skip 15 rfl (by kernel_rfl) (by kernel_rfl) (by kernel_rfl) rfl rfl (deF cc12) hO <| AQ.skip 16 rfl (by kernel_rfl) (by kernel_rfl) (by kernel_rfl) rfl rfl (deF cc12) hO <| AQ.skip 17 rfl (by kernel_rfl) (by kernel_rfl) (by kernel_rfl) rfl rfl (deF cc12) hO <| AQ.skip 18 rfl (by kernel_rfl) (by kernel_rfl) (by kernel_rfl) rfl rfl (deF cc12) hO <| AQ.skip 19 rfl (by kernel_rfl) (by kernel_rfl) (by kernel_rfl) rfl rfl (deF cc12) hO <| AQ.skip 20 rfl (by kernel_rfl) (by kernel_rfl) (by kernel_rfl) rfl rfl (deF cc12) hO <| AQ.skip 21 rfl (by kernel_rfl) (by kernel_rfl) (by kernel_rfl) rfl rfl (deF cc12) hO <| AQ.skipU 22 rfl (by kernel_rfl) (by kernel_rfl) (by kernel_rfl) rfl rfl hO <| AQ.skipU 23 rfl (by kernel_rfl) (by kernel_rfl) (by kernel_rfl) rfl rfl hO <| AQ.skipU 24 rfl (by kernel_rfl) (by kernel_rfl) (by kernel_rfl) rfl rfl hO <| AQ.skipU 25 rfl (by kernel_rfl) (by kernel_rfl) (by kernel_rfl) rfl rfl hO <| AQ.skipU 26 rfl (by kernel_rfl) (by kernel_rfl) (by kernel_rfl) rfl rfl hO <| AQ.skipU 27 rfl (by kernel_rfl) (by kernel_rfl) (by kernel_rfl) rfl rfl hO <| AQ.skipU 28 rfl (by kernel_rfl) (by kernel_rfl) (by kernel_rfl) rfl rfl hO <| AQ.skipU 29 rfl (by kernel_rfl) (by kernel_rfl) (by kernel_rfl) rfl rfl hO <| AQ.skipU 30 rfl (by kernel_rfl) (by kernel_rfl) (by kernel_rfl) rfl rfl hO <| AQ.skipU 31 rfl (by kernel_rfl) (by kernel_rfl) (by kernel_rfl) rfl rfl hO <| AQ.skip 32 rfl (by kernel_rfl) (by kernel_rfl) (by kernel_rfl) rfl rfl (deF cc12) hO <| ap 33 rfl (by kernel_rfl) hO (fun w => x_pickFV (v := .bool false) rfl (deF cc12) rfl) <| AQ.done (by kernel_rfl) <| cF rfl rfl <| ex ⟨n2, J1, (si H), ⟨rfl, trivial⟩, hL4, S⟩
 rintro σ w ⟨n9, J8, ho, hσ, hL4, S⟩
 subst ho
 have H := HO6
 have x0h2 := x0h2.mono hL4
 have hI := hI.trans hL4
 rw [hσ.eq]
 refine sq <| sq ?_
 have S := S.drew
 refine FW.regionD mixed ?_
 have hO := Hold.nil (w := { w with drawn := w.drawn + 1 })
 refine am 0 (pt bx0) rfl (by kernel_rfl) hO <| ap 1 rfl (by kernel_rfl) hO (fun w => x_nk rfl) <| ap 2 rfl (by kernel_rfl) hO (fun w => x_fa tf135_1 rfl) ?_
 have hR19 := ilr J8
 refine ak (Stab J8 [.bk bx0 135 [.string x0.S, .int .i64 n9, x0v2, .bool x0.Bad]]) 3 rfl (by kernel_rfl) hO (Stab.of S 0 rfl hR19) (fun w hS => x_ld tsc3 rfl (hS.load 0 rfl 1 rfl)) fun hO => am 4 (pt bx0) rfl (by kernel_rfl) hO <| ap 5 rfl (by kernel_rfl) hO (fun w => x_nk rfl) <| ap 6 rfl (by kernel_rfl) hO (fun w => x_fa tf135_0 rfl) <| ak (Stab J8 [.bk bx0 135 [.string x0.S, .int .i64 n9, x0v2, .bool x0.Bad]]) 7 rfl (by kernel_rfl) hO (Stab.of S 0 rfl hR19) (fun w hS => x_ld tsc9 rfl (hS.load 0 rfl 0 rfl)) fun hO => ap 8 rfl (by kernel_rfl) hO (fun w => x_lens tstr9 rfl) <| ap 9 rfl (by kernel_rfl) hO (fun w => x_bin rfl rfl rfl) <| AQ.done (by kernel_rfl) ?_
 by_cases cc20 : n9 = (x0.S.size : Int)
 ·rw [if_pos cc20] at H
  refine cT rfl (eqT cc20) <| sq <| FW.anew [] trivial fun σ => rg <| mv (.int .u8 0) rfl <| rt ?_
  obtain rfl := si H
  exact ⟨_, ⟨_, rfl, rfl⟩, ⟨x0v2, J8, hI, rfl, x0h2, S⟩⟩
 rw [if_neg cc20] at H
 refine cF rfl (eqF cc20) <| sk <| sq <| FW.anew [(0, pt bx0)] ⟨rfl, trivial⟩ fun σ => ?_
 have S := S.drew
 refine FW.regionD mixed ?_
 have hO := Hold.nil (w := { w with drawn := w.drawn + 1 })
 refine am 0 (pt bx0) rfl (by kernel_rfl) hO <| ap 1 rfl (by kernel_rfl) hO (fun w => x_nk rfl) <| ap 2 rfl (by kernel_rfl) hO (fun w => x_fa tf135_0 rfl) ?_
 have hR21 := ilr J8
 refine ak (Stab J8 [.bk bx0 135 [.string x0.S, .int .i64 n9, x0v2, .bool x0.Bad]]) 3 rfl (by kernel_rfl) hO (Stab.of S 0 rfl hR21) (fun w hS => x_ld tsc9 rfl (hS.load 0 rfl 0 rfl)) fun hO => am 4 (pt bx0) rfl (by kernel_rfl) hO <| ap 5 rfl (by kernel_rfl) hO (fun w => x_nk rfl) <| ap 6 rfl (by kernel_rfl) hO (fun w => x_fa tf135_1 rfl) <| ak (Stab J8 [.bk bx0 135 [.string x0.S, .int .i64 n9, x0v2, .bool x0.Bad]]) 7 rfl (by kernel_rfl) hO (Stab.of S 0 rfl hR21) (fun w hS => x_ld tsc3 rfl (hS.load 0 rfl 1 rfl)) fun hO => ?_
 obtain ⟨y22, h23, H⟩ := obx H
 refine ap 8 rfl (by kernel_rfl) hO (fun w => x_sat tstr9 rfl rfl h23) <| ap 9 rfl (by kernel_rfl) hO (fun w => x_asgV (v := .int .u8 y22) rfl) <| AQ.done (by kernel_rfl) <| rt ?_
 obtain rfl := si H
 exact ⟨_, ⟨_, rfl, rfl⟩, ⟨x0v2, J8, hI, rfl, x0h2, S⟩⟩
def r11_P_put.f (k : Nat) (x0 : T_r11_P) (x1 : T_r11_Node) : Option (Int × T_r11_P) := ((app 88 x0.N [x1]).bind fun l7 => (some ((i64 ((l7.length : Int) - 1)), (T_r11_P.mk x0.S x0.At l7 x0.Bad))))
abbrev r11_P_put.C (k : Nat) : Prop := ∀ {x0 : T_r11_P} {x1 : T_r11_Node} {x0v2 : Value} {x1v1 : Value} {x1v2 : Value} {x1v3 : Value} {bx0 : Nat} {F : List It} {I : IMem} {w : World} {r : Int × T_r11_P}, Glob I → Own I w (.bk bx0 135 [.string x0.S, .int .i64 x0.At, x0v2, .bool x0.Bad] :: .tv x0v2 163 6 :: F) → SlR R_r11_Node I x0v2 x0.N → SlR (tInt' .i64) I x1v1 x1.Kids → SlR (tInt' .i64) I x1v2 x1.From → SlR (tInt' .i64) I x1v3 x1.To → r11_P_put.f k x0 x1 = some r →
    Calls Tryz.prog 120 #[pt bx0, .agg #[.int .u8 x1.Kind, x1v1, x1v2, x1v3, .bool x1.Not, .bool x1.Num]] w fun e w' => ∃ v, e = .returned v ∧ ∃ (y_1v2 : Value) (J : IMem), I.le J ∧ v = .int .i64 r.1 ∧ SlR R_r11_Node J y_1v2 r.2.N ∧ Own J w' (.bk bx0 135 [.string r.2.S, .int .i64 r.2.At, y_1v2, .bool r.2.Bad] :: .tv y_1v2 163 6 :: F)
theorem r11_P_put.ok (k : Nat) : r11_P_put.C k := by
 intro x0 x1 x0v2 x1v1 x1v2 x1v3 bx0 F I w r hG S x0h2 x1h1 x1h2 x1h3 H
 have hI := ilr I
 rw [r11_P_put.f] at H
 refine Calls.ofFW (args := [pt bx0, .agg #[.int .u8 x1.Kind, x1v1, x1v2, x1v3, .bool x1.Not, .bool x1.Num]]) Tryz.func120 rfl rfl <| sr <| g rfl (o_boxA rfl S fun b1 w S => mv (.int .i64 0) rfl (sq ?_))
 have S := S.drew
 refine FW.regionD mixed ?_
 have hO := Hold.nil (w := { w with drawn := w.drawn + 1 })
 refine am 0 (pt bx0) rfl (by kernel_rfl) hO <| am 1 (pt bx0) rfl (by kernel_rfl) hO <| ap 2 rfl (by kernel_rfl) hO (fun w => x_nk rfl) <| ap 3 rfl (by kernel_rfl) hO (fun w => x_fa tf135_2 rfl) ?_
 have hR2 := ilr I
 refine ak (Stab I [.bk bx0 135 [.string x0.S, .int .i64 x0.At, x0v2, .bool x0.Bad]]) 4 rfl (by kernel_rfl) hO (Stab.of S 1 rfl hR2) (fun w hS => x_ld tsc133 rfl (hS.load 0 rfl 2 rfl)) fun hO => ak (Stab I [.bk b1 163 [.int .u8 x1.Kind, x1v1, x1v2, x1v3, .bool x1.Not, .bool x1.Num]]) 5 rfl (by kernel_rfl) hO (Stab.of S 0 rfl hR2) (fun w hS => x_ldA tag163 rfl (hS.loadW 0 rfl) rfl) fun hO => AQ.one 6 [5, 4] [false, true] (by kernel_rfl) rfl (by kernel_rfl) <| g rfl (o_bsl tsl133 tz163 rfl rfl rfl rfl (.agg PC.nil) rfl S fun b3 w S => ?_)
 obtain ⟨J4, hJ6, S, h5⟩ := S.freeze (r := R_r11_Node) (l := [x1]) 0 rfl ⟨[.int .u8 x1.Kind, x1v1, x1v2, x1v3, .bool x1.Not, .bool x1.Num], _, rfl, ⟨x1v1, x1v2, x1v3, rfl, x1h1, x1h2, x1h3⟩, rfl⟩ rfl rfl
 have x0h2 := x0h2.mono hJ6
 have hI := hI.trans hJ6
 have hR2 := hR2.trans hJ6
 refine andI (Hold.cons (Stab.of S 2 rfl hR2) Hold.nil) fun hO => AQ.one 7 [4] [false] (by kernel_rfl) rfl (by kernel_rfl) ?_
 obtain ⟨l7, h9, H⟩ := obx H
 refine g rfl (o_appD (r := R_r11_Node) tsl133 rfl tz163 rfl rfl S 3 rfl rfl x0h2 h5 h9 fun v8 w J11 hJ12 S h10 => ?_)
 have hI := hI.trans hJ12
 refine andI Hold.nil fun hO => ap 8 rfl (by kernel_rfl) hO (fun w => x_nk rfl) <| ap 9 rfl (by kernel_rfl) hO (fun w => x_fa tf135_2 rfl) <| AQ.one 10 [] [] (by kernel_rfl) rfl (by kernel_rfl) <| g rfl (o_st tone133 S 2 rfl rfl rfl h10.one fun w S => andI Hold.nil fun hO => AQ.done (by kernel_rfl) (sq (FW.anew [(0, pt bx0)] ⟨rfl, trivial⟩ fun σ => rg (mv (pt bx0) rfl (u rfl (x_nk rfl) (u rfl (x_fa tf135_2 rfl) (u rfl (x_ld tsc133 rfl (S.load 2 rfl 2 rfl)) (u rfl (x_lenD (r := R_r11_Node) tsl133 h10) (u rfl (x_bin rfl rfl rfl) (mv (.int .i64 (i64 ((l7.length : Int) - 1))) rfl (rt ?_)))))))))))
 obtain rfl := si H
 exact ⟨_, ⟨_, rfl, rfl⟩, ⟨v8, J11, hI, rfl, h10, (S.sel 4 [2, 3] rfl)⟩⟩
def r11_digit.f (k : Nat) (x0 : Int) : Option Bool := (if x0 ≥ 48 then (some (decide (x0 ≤ 57))) else (some false))
abbrev r11_digit.C (k : Nat) : Prop := ∀ {x0 : Int} {F : List It} {I : IMem} {w : World} {r : Bool}, Glob I → Own I w (F) → r11_digit.f k x0 = some r →
    Calls Tryz.prog 150 #[.int .u8 x0] w fun e w' => ∃ v, e = .returned v ∧ v = .bool r ∧ Own I w' (F)
theorem r11_digit.ok (k : Nat) : r11_digit.C k := by
 intro x0 F I w r hG S H
 have hI := ilr I
 rw [r11_digit.f] at H
 refine Calls.ofFW (args := [.int .u8 x0]) Tryz.func150 rfl rfl <| sr <| mv (.bool false) rfl <| sr <| mv (.int .u8 x0) rfl <| u rfl (x_bin rfl rfl rfl) <| mv (.bool (decide (x0 ≥ 48))) rfl ?_
 by_cases cc1 : x0 ≥ 48
 ·rw [if_pos cc1] at H
  refine gu rfl rfl rfl (deT cc1) (x_movV (v := .int .u8 x0) rfl) <| gu rfl rfl rfl (deT cc1) (x_bin rfl rfl rfl) <| u rfl (x_pickTV (v := .bool (decide (x0 ≤ 57))) rfl (deT cc1) rfl) <| mv (.bool (decide (x0 ≤ 57))) rfl <| rt ?_
  obtain rfl := si H
  exact ⟨_, ⟨_, rfl, rfl⟩, ⟨rfl, (S.weaken hI)⟩⟩
 rw [if_neg cc1] at H
 refine gn rfl rfl rfl (deF cc1) <| gn rfl rfl rfl (deF cc1) <| u rfl (x_pickFV (v := .bool false) rfl (deF cc1) rfl) <| mv (.bool false) rfl <| rt ?_
 obtain rfl := si H
 exact ⟨_, ⟨_, rfl, rfl⟩, ⟨rfl, (S.weaken hI)⟩⟩
def r01_Text.l0 : Nat → ByteArray → Int → Option ByteArray
  | 0, _, _ => none
  | k + 1, s3, n4 => (if n4 = 0 then (some s3) else (if (n4.tmod 10) < 0 then ((scutLR (⟨#[48, 49, 50, 51, 52, 53, 54, 55, 56, 57]⟩) (i64 (0 - (n4.tmod 10))) (i64 ((i64 (0 - (n4.tmod 10))) + 1))).bind fun s16 => ((scat s16 s3).bind fun s17 => (r01_Text.l0 k s17 (i64 (n4.tdiv 10))))) else ((scutLR (⟨#[48, 49, 50, 51, 52, 53, 54, 55, 56, 57]⟩) (n4.tmod 10) (i64 ((n4.tmod 10) + 1))).bind fun s20 => ((scat s20 s3).bind fun s21 => (r01_Text.l0 k s21 (i64 (n4.tdiv 10)))))))
def r01_Text.f (k : Nat) (x0 : Int) : Option ByteArray := (if x0 = 0 then (some (⟨#[48]⟩)) else ((r01_Text.l0 k (⟨#[]⟩) x0).bind fun s11 => (if x0 < 0 then ((scat (⟨#[45]⟩) s11).bind fun s24 => (some s24)) else (some s11))))
abbrev r01_Text.C (k : Nat) : Prop := ∀ {x0 : Int} {F : List It} {I : IMem} {w : World} {r : ByteArray}, Glob I → Own I w (F) → r01_Text.f k x0 = some r →
    Calls Tryz.prog 156 #[.int .i64 x0] w fun e w' => ∃ v, e = .returned v ∧ v = .string r ∧ Own I w' (F)
theorem r01_Text.ok (k : Nat) : r01_Text.C k := by
 intro x0 F I w r hG S H
 have hI := ilr I
 rw [r01_Text.f] at H
 refine Calls.ofFW (args := [.int .i64 x0]) Tryz.func156 rfl rfl <| sr <| mv (.string (⟨#[]⟩)) rfl <| sq <| sr <| mv (.int .i64 x0) rfl <| u rfl (x_bin rfl rfl rfl) ?_
 by_cases cc1 : x0 = 0
 ·rw [if_pos cc1] at H
  refine cT rfl (eqT cc1) <| sr <| mv (.string (⟨#[48]⟩)) rfl <| rt ?_
  obtain rfl := si H
  exact ⟨_, ⟨_, rfl, rfl⟩, ⟨rfl, (S.weaken hI)⟩⟩
 rw [if_neg cc1] at H
 refine cF rfl (eqF cc1) <| sk <| sr <| mv (.string (⟨#[]⟩)) rfl <| sr <| mv (.int .i64 x0) rfl <| mv (.int .i64 x0) rfl <| sq <| bk ?_
 obtain ⟨o7, hl9, HO8⟩ := obx H
 refine FW.cutX 0 (fun σ w => ∃ (s11 : ByteArray) (J10 : IMem), s11 = o7 ∧ Has σ [(0, .int .i64 x0), (3, .string s11)] ∧ I.le J10 ∧ Own J10 w (F)) ?_ ?_
 ·refine FW.loop k (FL.ind (fun q σ w => ∃ (s3 : ByteArray) (n4 : Int) (J2 : IMem), r01_Text.l0 q s3 n4 = some o7 ∧ q ≤ k ∧ Has σ [(0, .int .i64 x0), (3, .string s3), (4, .int .i64 n4)] ∧ I.le J2 ∧ Own J2 w (F)) ?_ ?_ k k _ _ (Nat.le_refl _) ⟨(⟨#[]⟩), x0, I, hl9, Nat.le_refl _, ⟨rfl, rfl, rfl, trivial⟩, (ilr _), S⟩)
  ·rintro σ w ⟨s3, n4, J2, H, _⟩; cases H
  rintro q5 σ w ⟨s3, n4, J2, H, hq12, hσ, hL6, S⟩
  rw [hσ.eq]
  rw [r01_Text.l0] at H
  refine sq <| sr <| mv (.int .i64 n4) rfl <| u rfl (x_bin rfl rfl rfl) ?_
  by_cases cc13 : n4 = 0
  ·rw [if_pos cc13] at H
   refine cF rfl (neF cc13) <| ex ⟨s3, J2, (si H), ⟨rfl, rfl, trivial⟩, hL6, S⟩
  rw [if_neg cc13] at H
  refine cT rfl (neT cc13) <| sk <| bk <| sr <| mv (.int .i64 n4) rfl <| u rfl (x_rem rfl rfl (by decide)) <| mv (.int .i64 (n4.tmod 10)) rfl <| sq <| sr <| mv (.int .i64 (n4.tmod 10)) rfl <| u rfl (x_bin rfl rfl rfl) ?_
  by_cases cc14 : (n4.tmod 10) < 0
  ·rw [if_pos cc14] at H
   refine cT rfl (deT cc14) <| FW.anew [(0, .int .i64 x0), (3, .string s3), (4, .int .i64 n4), (5, .int .i64 (n4.tmod 10))] ⟨rfl, rfl, rfl, rfl, trivial⟩ fun σ => rg <| mv (.int .i64 (n4.tmod 10)) rfl <| u rfl (x_neg rfl) <| mv (.int .i64 (i64 (0 - (n4.tmod 10)))) rfl <| sr <| mv (.int .i64 (i64 (0 - (n4.tmod 10)))) rfl <| mv (.int .i64 (i64 (0 - (n4.tmod 10)))) rfl <| u rfl (x_bin rfl rfl rfl) ?_
   obtain ⟨s16, h15, H⟩ := obx H
   refine g rfl (o_scutLR tstr9 rfl rfl rfl h15 (mv (.string s3) rfl ?_))
   obtain ⟨s17, h18, H⟩ := obx H
   refine u rfl (x_catD rfl rfl h18) <| mv (.string s17) rfl <| FW.anew [(0, .int .i64 x0), (3, .string s17), (4, .int .i64 n4)] ⟨rfl, rfl, rfl, trivial⟩ fun σ => rg <| mv (.int .i64 n4) rfl <| u rfl (x_quo rfl rfl (by decide)) <| mv (.int .i64 (i64 (n4.tdiv 10))) rfl ⟨q5, Nat.le_refl _, s17, (i64 (n4.tdiv 10)), J2, H, (Nat.le_of_succ_le hq12), ⟨rfl, rfl, rfl, trivial⟩, hL6, S⟩
  rw [if_neg cc14] at H
  refine cF rfl (deF cc14) <| sk <| sq <| FW.anew [(0, .int .i64 x0), (3, .string s3), (4, .int .i64 n4), (5, .int .i64 (n4.tmod 10))] ⟨rfl, rfl, rfl, rfl, trivial⟩ fun σ => rg <| mv (.int .i64 (n4.tmod 10)) rfl <| mv (.int .i64 (n4.tmod 10)) rfl <| u rfl (x_bin rfl rfl rfl) ?_
  obtain ⟨s20, h19, H⟩ := obx H
  refine g rfl (o_scutLR tstr9 rfl rfl rfl h19 (mv (.string s3) rfl ?_))
  obtain ⟨s21, h22, H⟩ := obx H
  refine u rfl (x_catD rfl rfl h22) <| mv (.string s21) rfl <| FW.anew [(0, .int .i64 x0), (3, .string s21), (4, .int .i64 n4)] ⟨rfl, rfl, rfl, trivial⟩ fun σ => rg <| mv (.int .i64 n4) rfl <| u rfl (x_quo rfl rfl (by decide)) <| mv (.int .i64 (i64 (n4.tdiv 10))) rfl ⟨q5, Nat.le_refl _, s21, (i64 (n4.tdiv 10)), J2, H, (Nat.le_of_succ_le hq12), ⟨rfl, rfl, rfl, trivial⟩, hL6, S⟩
 rintro σ w ⟨s11, J10, ho, hσ, hL6, S⟩
 subst ho
 have H := HO8
 have hI := hI.trans hL6
 rw [hσ.eq]
 refine sq <| sr <| mv (.int .i64 x0) rfl <| u rfl (x_bin rfl rfl rfl) ?_
 by_cases cc23 : x0 < 0
 ·rw [if_pos cc23] at H
  refine cT rfl (deT cc23) <| sr <| mv (.string s11) rfl ?_
  obtain ⟨s24, h25, H⟩ := obx H
  refine u rfl (x_catD rfl rfl h25) <| mv (.string s24) rfl <| rt ?_
  obtain rfl := si H
  exact ⟨_, ⟨_, rfl, rfl⟩, ⟨rfl, (S.weaken hI)⟩⟩
 rw [if_neg cc23] at H
 refine cF rfl (deF cc23) <| sk <| sr <| mv (.string s11) rfl <| mv (.string s11) rfl <| rt ?_
 obtain rfl := si H
 exact ⟨_, ⟨_, rfl, rfl⟩, ⟨rfl, (S.weaken hI)⟩⟩
def r01_Int.l0 : Nat → ByteArray → Int → Int → Option Int
  | 0, _, _, _ => none
  | k + 1, x0, n2, n3 => (if n3 < (x0.size : Int) then (if n3 < 12 then ((sat x0 n3).bind fun y14 => (r01_Int.l0 k x0 (i64 ((i64 ((i64 (10 * n2)) + (i64 y14))) - 48)) (i64 (n3 + 1)))) else (some n2)) else (some n2))
def r01_Int.f (k : Nat) (x0 : ByteArray) : Option (Int × Bool) := ((r01_Int.l0 k x0 0 0).bind fun n10 => (if n10 < 0 then (some (0, false)) else (if n10 > 4294967295 then (some (0, false)) else ((r01_Text.f k n10).bind fun y18 => (if y18 = x0 then (some (n10, true)) else (some (0, false)))))))
abbrev r01_Int.C (k : Nat) : Prop := ∀ {x0 : ByteArray} {F : List It} {I : IMem} {w : World} {r : Int × Bool}, Glob I → Own I w (F) → r01_Int.f k x0 = some r →
    Calls Tryz.prog 155 #[.string x0] w fun e w' => ∃ v, e = .returned v ∧ v = .tuple #[.int .i64 r.1, .bool r.2] ∧ Own I w' (F)
theorem r01_Int.ok (k : Nat) : r01_Int.C k := by
 intro x0 F I w r hG S H
 have hI := ilr I
 rw [r01_Int.f] at H
 refine Calls.ofFW (args := [.string x0]) Tryz.func155 rfl rfl <| sr <| mv (.int .i64 0) rfl <| mv (.bool false) rfl <| sr <| mv (.int .i64 0) rfl <| sq <| sr <| mv (.int .i64 0) rfl <| bk ?_
 obtain ⟨o6, hl8, HO7⟩ := obx H
 refine FW.cutX 0 (fun σ w => ∃ (n10 : Int) (J9 : IMem), n10 = o6 ∧ Has σ [(0, .string x0), (4, .int .i64 n10)] ∧ I.le J9 ∧ Own J9 w (F)) ?_ ?_
 ·refine FW.loop k (FL.ind (fun q σ w => ∃ (n2 : Int) (n3 : Int) (J1 : IMem), r01_Int.l0 q x0 n2 n3 = some o6 ∧ q ≤ k ∧ Has σ [(0, .string x0), (4, .int .i64 n2), (5, .int .i64 n3)] ∧ I.le J1 ∧ Own J1 w (F)) ?_ ?_ k k _ _ (Nat.le_refl _) ⟨0, 0, I, hl8, Nat.le_refl _, ⟨rfl, rfl, rfl, trivial⟩, (ilr _), S⟩)
  ·rintro σ w ⟨n2, n3, J1, H, _⟩; cases H
  rintro q4 σ w ⟨n2, n3, J1, H, hq11, hσ, hL5, S⟩
  rw [hσ.eq]
  rw [r01_Int.l0] at H
  refine sq <| sr <| mv (.int .i64 n3) rfl <| mv (.string x0) rfl <| u rfl (x_lens tstr9 rfl) <| u rfl (x_bin rfl rfl rfl) <| mv (.bool (decide (n3 < (x0.size : Int)))) rfl ?_
  by_cases cc12 : n3 < (x0.size : Int)
  ·rw [if_pos cc12] at H
   refine gu rfl rfl rfl (deT cc12) (x_movV (v := .int .i64 n3) rfl) <| gu rfl rfl rfl (deT cc12) (x_bin rfl rfl rfl) <| u rfl (x_pickTV (v := .bool (decide (n3 < 12))) rfl (deT cc12) rfl) ?_
   by_cases cc13 : n3 < 12
   ·rw [if_pos cc13] at H
    refine cT rfl (deT cc13) <| sk <| sq <| bk <| FW.anew [(0, .string x0), (4, .int .i64 n2), (5, .int .i64 n3)] ⟨rfl, rfl, rfl, trivial⟩ fun σ => rg <| mv (.int .i64 n2) rfl <| u rfl (x_bin rfl rfl rfl) <| mv (.string x0) rfl <| mv (.int .i64 n3) rfl ?_
    obtain ⟨y14, h15, H⟩ := obx H
    refine u rfl (x_sat tstr9 rfl rfl h15) <| u rfl (x_conv tint3 tint_5 rfl) <| u rfl (x_bin rfl rfl rfl) <| u rfl (x_bin rfl rfl rfl) <| mv (.int .i64 (i64 ((i64 ((i64 (10 * n2)) + (i64 y14))) - 48))) rfl <| FW.anew [(0, .string x0), (4, .int .i64 (i64 ((i64 ((i64 (10 * n2)) + (i64 y14))) - 48))), (5, .int .i64 n3)] ⟨rfl, rfl, rfl, trivial⟩ fun σ => rg <| mv (.int .i64 n3) rfl <| u rfl (x_bin rfl rfl rfl) <| mv (.int .i64 (i64 (n3 + 1))) rfl ⟨q4, Nat.le_refl _, (i64 ((i64 ((i64 (10 * n2)) + (i64 y14))) - 48)), (i64 (n3 + 1)), J1, H, (Nat.le_of_succ_le hq11), ⟨rfl, rfl, rfl, trivial⟩, hL5, S⟩
   rw [if_neg cc13] at H
   refine cF rfl (deF cc13) <| ex ⟨n2, J1, (si H), ⟨rfl, rfl, trivial⟩, hL5, S⟩
  rw [if_neg cc12] at H
  refine gn rfl rfl rfl (deF cc12) <| gn rfl rfl rfl (deF cc12) <| u rfl (x_pickFV (v := .bool false) rfl (deF cc12) rfl) <| cF rfl rfl <| ex ⟨n2, J1, (si H), ⟨rfl, rfl, trivial⟩, hL5, S⟩
 rintro σ w ⟨n10, J9, ho, hσ, hL5, S⟩
 subst ho
 have H := HO7
 have hI := hI.trans hL5
 have hG := hG.mono hL5
 rw [hσ.eq]
 refine sq <| sr <| mv (.int .i64 n10) rfl <| u rfl (x_bin rfl rfl rfl) <| mv (.bool (decide (n10 < 0))) rfl ?_
 by_cases cc16 : n10 < 0
 ·rw [if_pos cc16] at H
  refine gn rfl rfl rfl (deT cc16) <| gn rfl rfl rfl (deT cc16) <| u rfl (x_pickTV (v := .bool true) rfl (deT cc16) rfl) <| mv (.bool true) rfl <| gn rfl rfl rfl rfl <| gn rfl rfl rfl rfl <| gn rfl rfl rfl rfl <| gn rfl rfl rfl rfl <| u rfl (x_pickTV (v := .bool true) rfl rfl rfl) <| cT rfl rfl <| sr <| mv (.int .i64 0) rfl <| mv (.bool false) rfl <| rt ?_
  obtain rfl := si H
  exact ⟨_, ⟨_, rfl, ⟨_, rfl, rfl⟩⟩, ⟨rfl, (S.weaken hI)⟩⟩
 rw [if_neg cc16] at H
 refine gu rfl rfl rfl (deF cc16) (x_movV (v := .int .i64 n10) rfl) <| gu rfl rfl rfl (deF cc16) (x_bin rfl rfl rfl) <| u rfl (x_pickFV (v := .bool (decide (n10 > 4294967295))) rfl (deF cc16) rfl) <| mv (.bool (decide (n10 > 4294967295))) rfl ?_
 by_cases cc17 : n10 > 4294967295
 ·rw [if_pos cc17] at H
  refine gn rfl rfl rfl (deT cc17) <| gn rfl rfl rfl (deT cc17) <| gn rfl rfl rfl (deT cc17) <| gn rfl rfl rfl (deT cc17) <| u rfl (x_pickTV (v := .bool true) rfl (deT cc17) rfl) <| cT rfl rfl <| sq <| FW.anew [] trivial fun σ => rg <| mv (.int .i64 0) rfl <| mv (.bool false) rfl <| rt ?_
  obtain rfl := si H
  exact ⟨_, ⟨_, rfl, ⟨_, rfl, rfl⟩⟩, ⟨rfl, (S.weaken hI)⟩⟩
 rw [if_neg cc17] at H
 refine gu rfl rfl rfl (deF cc17) (x_movV (v := .int .i64 n10) rfl) ?_
 obtain ⟨y18, hy19, H⟩ := obx H
 refine OK.gt rfl rfl rfl (deF cc17) (cl fb156 (@r01_Text.ok k n10 _ _ _ _ hG S hy19) rfl ?_)
 rintro _ w ⟨rfl, S⟩
 refine gu rfl rfl rfl (deF cc17) (x_movV (v := .string x0) rfl) <| gu rfl rfl rfl (deF cc17) (x_sne rfl rfl) <| u rfl (x_pickFV (v := .bool (!decide (y18 = x0))) rfl (deF cc17) rfl) ?_
 by_cases cc20 : y18 = x0
 ·rw [if_pos cc20] at H
  refine cF rfl (noF (deT cc20)) <| sk <| sq <| FW.anew [(4, .int .i64 n10)] ⟨rfl, trivial⟩ fun σ => rg <| mv (.int .i64 n10) rfl <| mv (.int .i64 n10) rfl <| mv (.bool true) rfl <| rt ?_
  obtain rfl := si H
  exact ⟨_, ⟨_, rfl, ⟨_, rfl, rfl⟩⟩, ⟨rfl, (S.weaken hI)⟩⟩
 rw [if_neg cc20] at H
 refine cT rfl (noT (deF cc20)) <| sq <| FW.anew [] trivial fun σ => rg <| mv (.int .i64 0) rfl <| mv (.bool false) rfl <| rt ?_
 obtain rfl := si H
 exact ⟨_, ⟨_, rfl, ⟨_, rfl, rfl⟩⟩, ⟨rfl, (S.weaken hI)⟩⟩
end Go.Proofs.YtafnenafbognkaaGreatDoor
namespace Go.Proofs.YtafnenafbognkaaGreatDoor
open Sp
set_option maxRecDepth 100000
set_option maxHeartbeats 4000000
def r11_P_num.l0 : Nat → T_r11_P → Int → Option Int
  | 0, _, _ => none
  | k + 1, x0, n2 => (if n2 < (x0.S.size : Int) then ((sat x0.S n2).bind fun y13 => ((r11_digit.f k y13).bind fun y15 => (if y15 = true then (r11_P_num.l0 k x0 (i64 (n2 + 1))) else (some n2)))) else (some n2))
def r11_P_num.f (k : Nat) (x0 : T_r11_P) : Option (Int × T_r11_P) := ((r11_P_num.l0 k x0 x0.At).bind fun n9 => ((scutLR x0.S x0.At n9).bind fun s20 => ((r01_Int.f k s20).bind fun y21 => (if x0.Bad = true then (some (y21.1, (T_r11_P.mk x0.S n9 x0.N true))) else (some (y21.1, (T_r11_P.mk x0.S n9 x0.N (!y21.2))))))))
abbrev r11_P_num.C (k : Nat) : Prop := ∀ {x0 : T_r11_P} {x0v2 : Value} {bx0 : Nat} {F : List It} {I : IMem} {w : World} {r : Int × T_r11_P}, Glob I → Own I w (.bk bx0 135 [.string x0.S, .int .i64 x0.At, x0v2, .bool x0.Bad] :: .tv x0v2 163 6 :: F) → SlR R_r11_Node I x0v2 x0.N → r11_P_num.f k x0 = some r →
    Calls Tryz.prog 151 #[pt bx0] w fun e w' => ∃ v, e = .returned v ∧ ∃ (y_1v2 : Value) (J : IMem), I.le J ∧ v = .int .i64 r.1 ∧ SlR R_r11_Node J y_1v2 r.2.N ∧ Own J w' (.bk bx0 135 [.string r.2.S, .int .i64 r.2.At, y_1v2, .bool r.2.Bad] :: .tv y_1v2 163 6 :: F)
theorem r11_P_num.ok (k : Nat) : r11_P_num.C k := by
 intro x0 x0v2 bx0 F I w r hG S x0h2 H
 have hI := ilr I
 rw [r11_P_num.f] at H
 refine Calls.ofFW (args := [pt bx0]) Tryz.func151 rfl rfl <| sr <| mv (.int .i64 0) rfl <| sr <| mv (pt bx0) rfl <| u rfl (x_nk rfl) <| u rfl (x_fa tf135_1 rfl) <| u rfl (x_ld tsc3 rfl (S.load 0 rfl 1 rfl)) <| mv (.int .i64 x0.At) rfl <| sq <| bk ?_
 obtain ⟨o5, hl7, HO6⟩ := obx H
 refine FW.cutX 0 (fun σ w => ∃ (n9 : Int) (J8 : IMem), n9 = o5 ∧ Has σ [(0, pt bx0), (3, .int .i64 x0.At)] ∧ I.le J8 ∧ Own J8 w (.bk bx0 135 [.string x0.S, .int .i64 n9, x0v2, .bool x0.Bad] :: .tv x0v2 163 6 :: F)) ?_ ?_
 ·refine FW.loop k (FL.ind (fun q σ w => ∃ (n2 : Int) (J1 : IMem), r11_P_num.l0 q x0 n2 = some o5 ∧ q ≤ k ∧ Has σ [(0, pt bx0), (3, .int .i64 x0.At)] ∧ I.le J1 ∧ Own J1 w (.bk bx0 135 [.string x0.S, .int .i64 n2, x0v2, .bool x0.Bad] :: .tv x0v2 163 6 :: F)) ?_ ?_ k k _ _ (Nat.le_refl _) ⟨x0.At, I, hl7, Nat.le_refl _, ⟨rfl, rfl, trivial⟩, (ilr _), S⟩)
  ·rintro σ w ⟨n2, J1, H, _⟩; cases H
  rintro q3 σ w ⟨n2, J1, H, hq10, hσ, hL4, S⟩
  have hG := hG.mono hL4
  rw [hσ.eq]
  rw [r11_P_num.l0] at H
  refine sq <| sq ?_
  have S := S.drew
  refine FW.regionD mixed ?_
  have hO := Hold.nil (w := { w with drawn := w.drawn + 1 })
  refine am 0 (pt bx0) rfl (by kernel_rfl) hO <| ap 1 rfl (by kernel_rfl) hO (fun w => x_nk rfl) <| ap 2 rfl (by kernel_rfl) hO (fun w => x_fa tf135_1 rfl) ?_
  have hR11 := ilr J1
  refine ak (Stab J1 [.bk bx0 135 [.string x0.S, .int .i64 n2, x0v2, .bool x0.Bad]]) 3 rfl (by kernel_rfl) hO (Stab.of S 0 rfl hR11) (fun w hS => x_ld tsc3 rfl (hS.load 0 rfl 1 rfl)) fun hO => am 4 (pt bx0) rfl (by kernel_rfl) hO <| ap 5 rfl (by kernel_rfl) hO (fun w => x_nk rfl) <| ap 6 rfl (by kernel_rfl) hO (fun w => x_fa tf135_0 rfl) <| ak (Stab J1 [.bk bx0 135 [.string x0.S, .int .i64 n2, x0v2, .bool x0.Bad]]) 7 rfl (by kernel_rfl) hO (Stab.of S 0 rfl hR11) (fun w hS => x_ld tsc9 rfl (hS.load 0 rfl 0 rfl)) fun hO => ap 8 rfl (by kernel_rfl) hO (fun w => x_lens tstr9 rfl) <| ap 9 rfl (by kernel_rfl) hO (fun w => x_bin rfl rfl rfl) <| am 10 (.bool (decide (n2 < (x0.S.size : Int)))) rfl (by kernel_rfl) hO ?_
  by_cases cc12 : n2 < (x0.S.size : Int)
  ·rw [if_pos cc12] at H
   refine AQ.pure 11 rfl (by kernel_rfl) (by kernel_rfl) (by kernel_rfl) (gT rfl rfl (deT cc12)) hO (fun w => x_movV (v := pt bx0) rfl) <| AQ.pure 12 rfl (by kernel_rfl) (by kernel_rfl) (by kernel_rfl) (gT rfl rfl (deT cc12)) hO (fun w => x_nk rfl) <| AQ.pure 13 rfl (by kernel_rfl) (by kernel_rfl) (by kernel_rfl) (gT rfl rfl (deT cc12)) hO (fun w => x_fa tf135_0 rfl) <| AQ.take (S := Stab J1 [.bk bx0 135 [.string x0.S, .int .i64 n2, x0v2, .bool x0.Bad]]) 14 rfl (by kernel_rfl) (by kernel_rfl) (by kernel_rfl) (gT rfl rfl (deT cc12)) hO (Stab.of S 0 rfl hR11) (fun w hS => x_ld tsc9 rfl (hS.load 0 rfl 0 rfl)) fun hO => AQ.pure 15 rfl (by kernel_rfl) (by kernel_rfl) (by kernel_rfl) (gT rfl rfl (deT cc12)) hO (fun w => x_movV (v := pt bx0) rfl) <| AQ.pure 16 rfl (by kernel_rfl) (by kernel_rfl) (by kernel_rfl) (gT rfl rfl (deT cc12)) hO (fun w => x_nk rfl) <| AQ.pure 17 rfl (by kernel_rfl) (by kernel_rfl) (by kernel_rfl) (gT rfl rfl (deT cc12)) hO (fun w => x_fa tf135_1 rfl) <| AQ.take (S := Stab J1 [.bk bx0 135 [.string x0.S, .int .i64 n2, x0v2, .bool x0.Bad]]) 18 rfl (by kernel_rfl) (by kernel_rfl) (by kernel_rfl) (gT rfl rfl (deT cc12)) hO (Stab.of S 0 rfl hR11) (fun w hS => x_ld tsc3 rfl (hS.load 0 rfl 1 rfl)) fun hO => ?_
   obtain ⟨y13, h14, H⟩ := obx H
   refine AQ.pure 19 rfl (by kernel_rfl) (by kernel_rfl) (by kernel_rfl) (gT rfl rfl (deT cc12)) hO (fun w => x_sat tstr9 rfl rfl h14) <| AQ.one 20 [18, 14, 7, 3] [true, true, true, true] (by kernel_rfl) rfl (by kernel_rfl) ?_
   obtain ⟨y15, hy16, H⟩ := obx H
   refine OK.gt rfl rfl rfl (deT cc12) (cl fb150 (@r11_digit.ok q3 y13 _ _ _ _ hG S hy16) rfl ?_)
   rintro _ w ⟨rfl, S⟩
   refine andI (Hold.cons (Stab.of S 0 rfl hR11) (Hold.cons (Stab.of S 0 rfl hR11) (Hold.cons (Stab.of S 0 rfl hR11) (Hold.cons (Stab.of S 0 rfl hR11) Hold.nil)))) fun hO => ap 21 rfl (by kernel_rfl) hO (fun w => x_pickTV (v := .bool y15) rfl (deT cc12) rfl) <| AQ.done (by kernel_rfl) ?_
   by_cases cc17 : y15 = true
   ·rw [if_pos cc17] at H
    refine cT rfl cc17 <| sk <| bk <| FW.anew [(0, pt bx0), (3, .int .i64 x0.At)] ⟨rfl, rfl, trivial⟩ fun σ => rg <| mv (pt bx0) rfl <| mv (pt bx0) rfl <| u rfl (x_nk rfl) <| u rfl (x_fa tf135_1 rfl) <| u rfl (x_ld tsc3 rfl (S.load 0 rfl 1 rfl)) <| u rfl (x_bin rfl rfl rfl) <| u rfl (x_nk rfl) <| u rfl (x_fa tf135_1 rfl) <| g rfl (o_st tone3 S 0 rfl rfl rfl rfl fun w S => ⟨q3, Nat.le_refl _, (i64 (n2 + 1)), J1, H, (Nat.le_of_succ_le hq10), ⟨rfl, rfl, trivial⟩, hL4, S⟩)
   rw [if_neg cc17] at H
   refine cF rfl (vaF cc17) <| ex ⟨n2, J1, (si H), ⟨rfl, rfl, trivial⟩, hL4, S⟩
  rw [if_neg cc12] at H
  refine AQ.skip 11 rfl (by kernel_rfl) (by kernel_rfl) (by kernel_rfl) rfl rfl (deF cc12) hO <| AQ.skip 12 rfl (by kernel_rfl) (by kernel_rfl) (by kernel_rfl) rfl rfl (deF cc12) hO <| AQ.skip 13 rfl (by kernel_rfl) (by kernel_rfl) (by kernel_rfl) rfl rfl (deF cc12) hO <| AQ.skip 14 rfl (by kernel_rfl) (by kernel_rfl) (by kernel_rfl) rfl rfl (deF cc12) hO <| AQ.skip 15 rfl (by kernel_rfl) (by kernel_rfl) (by kernel_rfl) rfl rfl (deF cc12) hO <| AQ.skip 16 rfl (by kernel_rfl) (by kernel_rfl) (by kernel_rfl) rfl rfl (deF cc12) hO <| AQ.skip 17 rfl (by kernel_rfl) (by kernel_rfl) (by kernel_rfl) rfl rfl (deF cc12) hO <| AQ.skip 18 rfl (by kernel_rfl) (by kernel_rfl) (by kernel_rfl) rfl rfl (deF cc12) hO <| AQ.skip 19 rfl (by kernel_rfl) (by kernel_rfl) (by kernel_rfl) rfl rfl (deF cc12) hO <| AQ.skip 20 rfl (by kernel_rfl) (by kernel_rfl) (by kernel_rfl) rfl rfl (deF cc12) hO <| ap 21 rfl (by kernel_rfl) hO (fun w => x_pickFV (v := .bool false) rfl (deF cc12) rfl) <| AQ.done (by kernel_rfl) <| cF rfl rfl <| ex ⟨n2, J1, (si H), ⟨rfl, rfl, trivial⟩, hL4, S⟩
 rintro σ w ⟨n9, J8, ho, hσ, hL4, S⟩
 subst ho
 have H := HO6
 have x0h2 := x0h2.mono hL4
 have hI := hI.trans hL4
 have hG := hG.mono hL4
 rw [hσ.eq]
 refine sq ?_
 have S := S.drew
 refine FW.regionD mixed ?_
 have hO := Hold.nil (w := { w with drawn := w.drawn + 1 })
 refine am 0 (pt bx0) rfl (by kernel_rfl) hO <| ap 1 rfl (by kernel_rfl) hO (fun w => x_nk rfl) <| ap 2 rfl (by kernel_rfl) hO (fun w => x_fa tf135_0 rfl) ?_
 have hR18 := ilr J8
 refine ak (Stab J8 [.bk bx0 135 [.string x0.S, .int .i64 n9, x0v2, .bool x0.Bad]]) 3 rfl (by kernel_rfl) hO (Stab.of S 0 rfl hR18) (fun w hS => x_ld tsc9 rfl (hS.load 0 rfl 0 rfl)) fun hO => am 4 (.int .i64 x0.At) rfl (by kernel_rfl) hO <| am 5 (pt bx0) rfl (by kernel_rfl) hO <| ap 6 rfl (by kernel_rfl) hO (fun w => x_nk rfl) <| ap 7 rfl (by kernel_rfl) hO (fun w => x_fa tf135_1 rfl) <| ak (Stab J8 [.bk bx0 135 [.string x0.S, .int .i64 n9, x0v2, .bool x0.Bad]]) 8 rfl (by kernel_rfl) hO (Stab.of S 0 rfl hR18) (fun w hS => x_ld tsc3 rfl (hS.load 0 rfl 1 rfl)) fun hO => AQ.one 9 [8, 3] [false, false] (by kernel_rfl) rfl (by kernel_rfl) ?_
 obtain ⟨s20, h19, H⟩ := obx H
 refine g rfl (o_scutLR tstr9 rfl rfl rfl h19 (andI Hold.nil fun hO => AQ.one 10 [] [] (by kernel_rfl) rfl (by kernel_rfl) ?_))
 obtain ⟨y21, hy22, H⟩ := obx H
 refine g rfl (cl fb155 (@r01_Int.ok k s20 _ _ _ _ hG S hy22) rfl ?_)
 rintro _ w ⟨rfl, S⟩
 refine andI Hold.nil fun hO => am 11 (.tuple #[.int .i64 y21.1, .bool y21.2]) rfl (by kernel_rfl) hO <| ap 12 rfl (by kernel_rfl) hO (fun w => x_ext rfl rfl) <| ap 13 rfl (by kernel_rfl) hO (fun w => x_ext rfl rfl) <| ap 14 rfl (by kernel_rfl) hO (fun w => x_asgV (v := .int .i64 y21.1) rfl) <| ap 15 rfl (by kernel_rfl) hO (fun w => x_asgV (v := .bool y21.2) rfl) <| AQ.done (by kernel_rfl) <| sq <| FW.anew [(0, pt bx0), (4, .int .i64 y21.1), (5, .bool y21.2)] ⟨rfl, rfl, rfl, trivial⟩ fun σ => rg <| mv (pt bx0) rfl <| mv (pt bx0) rfl <| u rfl (x_nk rfl) <| u rfl (x_fa tf135_3 rfl) <| u rfl (x_ld tsc4 rfl (S.load 0 rfl 3 rfl)) <| mv (.bool x0.Bad) rfl ?_
 by_cases cc23 : x0.Bad = true
 ·rw [if_pos cc23] at H
  refine gn rfl rfl rfl cc23 <| gn rfl rfl rfl cc23 <| u rfl (x_pickTV (v := .bool true) rfl cc23 rfl) <| u rfl (x_nk rfl) <| u rfl (x_fa tf135_3 rfl) <| g rfl (o_st tone4 S 0 rfl rfl rfl rfl fun w S => sq (FW.anew [(4, .int .i64 y21.1)] ⟨rfl, trivial⟩ fun σ => rg (mv (.int .i64 y21.1) rfl (mv (.int .i64 y21.1) rfl (rt ?_)))))
  obtain rfl := si H
  exact ⟨_, ⟨_, rfl, rfl⟩, ⟨x0v2, J8, hI, rfl, x0h2, S⟩⟩
 rw [if_neg cc23] at H
 refine gu rfl rfl rfl (vaF cc23) (x_movV (v := .bool y21.2) rfl) <| gu rfl rfl rfl (vaF cc23) (x_not' rfl) <| u rfl (x_pickFV (v := .bool (!y21.2)) rfl (vaF cc23) rfl) <| u rfl (x_nk rfl) <| u rfl (x_fa tf135_3 rfl) <| g rfl (o_st tone4 S 0 rfl rfl rfl rfl fun w S => sq (FW.anew [(4, .int .i64 y21.1)] ⟨rfl, trivial⟩ fun σ => rg (mv (.int .i64 y21.1) rfl (mv (.int .i64 y21.1) rfl (rt ?_)))))
 obtain rfl := si H
 exact ⟨_, ⟨_, rfl, rfl⟩, ⟨x0v2, J8, hI, rfl, x0h2, S⟩⟩
def r11_P_set.l0 : Nat → Bool → Int → ByteArray → Int → (List T_r11_Node) → Bool → (List Int) → (List Int) → Option (Sum (Int × T_r11_P) (ByteArray × Int × (List T_r11_Node) × Bool × (List Int) × (List Int)))
  | 0, _, _, _, _, _, _, _, _ => none
  | k + 1, b8, n16, s17, n18, l19, b22, l23, l26 => (if n16 ≤ (s17.size : Int) then (if b22 = true then (some (.inr (s17, n18, l19, b22, l23, l26))) else ((r11_P_sign.f k (T_r11_P.mk s17 n18 l19 b22)).bind fun y50 => (if y50.1 = 44 then (r11_P_set.l0 k b8 (i64 (n16 + 1)) y50.2.S (i64 (y50.2.At + 1)) y50.2.N y50.2.Bad l23 l26) else (if y50.1 = 93 then (if (l23.length : Int) > 0 then ((r11_P_put.f k (T_r11_P.mk y50.2.S (i64 (y50.2.At + 1)) y50.2.N y50.2.Bad) (T_r11_Node.mk 115 [] l23 l26 b8 false)).bind fun y57 => (some (.inl (y57.1, y57.2)))) else ((r11_digit.f k y50.1).bind fun y61 => (if y61 = true then ((r11_P_num.f k y50.2).bind fun y64 => (if y64.2.At < (y64.2.S.size : Int) then ((sat y64.2.S y64.2.At).bind fun y70 => ((if y70 = 45 then ((r11_P_num.f k (T_r11_P.mk y64.2.S (i64 (y64.2.At + 1)) y64.2.N y64.2.Bad)).bind fun y84 => (some (y84.1, y84.2.S, y84.2.At, y84.2.N, y84.2.Bad))) else (some (y64.1, y64.2.S, y64.2.At, y64.2.N, y64.2.Bad))).bind fun (n73, s74, n75, l76, b79) => (if b79 = true then ((app 8 l23 [y64.1]).bind fun l93 => ((app 8 l26 [n73]).bind fun l103 => (r11_P_set.l0 k b8 (i64 (n16 + 1)) s74 n75 l76 true l93 l103))) else ((app 8 l23 [y64.1]).bind fun l113 => ((app 8 l26 [n73]).bind fun l123 => (r11_P_set.l0 k b8 (i64 (n16 + 1)) s74 n75 l76 (decide (y64.1 > n73)) l113 l123)))))) else (if y64.2.Bad = true then ((app 8 l23 [y64.1]).bind fun l134 => ((app 8 l26 [y64.1]).bind fun l144 => (r11_P_set.l0 k b8 (i64 (n16 + 1)) y64.2.S y64.2.At y64.2.N true l134 l144))) else ((app 8 l23 [y64.1]).bind fun l154 => ((app 8 l26 [y64.1]).bind fun l164 => (r11_P_set.l0 k b8 (i64 (n16 + 1)) y64.2.S y64.2.At y64.2.N (decide (y64.1 > y64.1)) l154 l164)))))) else (r11_P_set.l0 k b8 (i64 (n16 + 1)) y50.2.S y50.2.At y50.2.N true l23 l26)))) else ((r11_digit.f k y50.1).bind fun y170 => (if y170 = true then ((r11_P_num.f k y50.2).bind fun y173 => (if y173.2.At < (y173.2.S.size : Int) then ((sat y173.2.S y173.2.At).bind fun y179 => ((if y179 = 45 then ((r11_P_num.f k (T_r11_P.mk y173.2.S (i64 (y173.2.At + 1)) y173.2.N y173.2.Bad)).bind fun y193 => (some (y193.1, y193.2.S, y193.2.At, y193.2.N, y193.2.Bad))) else (some (y173.1, y173.2.S, y173.2.At, y173.2.N, y173.2.Bad))).bind fun (n182, s183, n184, l185, b188) => (if b188 = true then ((app 8 l23 [y173.1]).bind fun l202 => ((app 8 l26 [n182]).bind fun l212 => (r11_P_set.l0 k b8 (i64 (n16 + 1)) s183 n184 l185 true l202 l212))) else ((app 8 l23 [y173.1]).bind fun l222 => ((app 8 l26 [n182]).bind fun l232 => (r11_P_set.l0 k b8 (i64 (n16 + 1)) s183 n184 l185 (decide (y173.1 > n182)) l222 l232)))))) else (if y173.2.Bad = true then ((app 8 l23 [y173.1]).bind fun l243 => ((app 8 l26 [y173.1]).bind fun l253 => (r11_P_set.l0 k b8 (i64 (n16 + 1)) y173.2.S y173.2.At y173.2.N true l243 l253))) else ((app 8 l23 [y173.1]).bind fun l263 => ((app 8 l26 [y173.1]).bind fun l273 => (r11_P_set.l0 k b8 (i64 (n16 + 1)) y173.2.S y173.2.At y173.2.N (decide (y173.1 > y173.1)) l263 l273)))))) else (r11_P_set.l0 k b8 (i64 (n16 + 1)) y50.2.S y50.2.At y50.2.N true l23 l26))))))) else (some (.inr (s17, n18, l19, b22, l23, l26))))
def r11_P_set.f (k : Nat) (x0 : T_r11_P) : Option (Int × T_r11_P) := ((r11_P_sign.f k x0).bind fun y2 => ((if y2.1 = 94 then (some ((i64 (y2.2.At + 1)), true)) else (some (y2.2.At, false))).bind fun (n7, b8) => (((r11_P_set.l0 k b8 0 y2.2.S n7 y2.2.N y2.2.Bad [] []) : Option (Sum (Int × T_r11_P) (ByteArray × Int × (List T_r11_Node) × Bool × (List Int) × (List Int)))).bind fun o => match o with | .inl r => some r | .inr (s35, n36, l37, b40, l41, l44) => (some (0, (T_r11_P.mk s35 n36 l37 true))))))
abbrev r11_P_set.C (k : Nat) : Prop := ∀ {x0 : T_r11_P} {x0v2 : Value} {bx0 : Nat} {F : List It} {I : IMem} {w : World} {r : Int × T_r11_P}, Glob I → Own I w (.bk bx0 135 [.string x0.S, .int .i64 x0.At, x0v2, .bool x0.Bad] :: .tv x0v2 163 6 :: F) → SlR R_r11_Node I x0v2 x0.N → r11_P_set.f k x0 = some r →
    Calls Tryz.prog 152 #[pt bx0] w fun e w' => ∃ v, e = .returned v ∧ ∃ (y_1v2 : Value) (J : IMem), I.le J ∧ v = .int .i64 r.1 ∧ SlR R_r11_Node J y_1v2 r.2.N ∧ Own J w' (.bk bx0 135 [.string r.2.S, .int .i64 r.2.At, y_1v2, .bool r.2.Bad] :: .tv y_1v2 163 6 :: F)
theorem r11_P_set.ok (k : Nat) : r11_P_set.C k := by
 intro x0 x0v2 bx0 F I w r hG S x0h2 H
 have hI := ilr I
 rw [r11_P_set.f] at H
 refine Calls.ofFW (args := [pt bx0]) Tryz.func152 rfl rfl <| sr <| mv (.int .i64 0) rfl <| sr <| u rfl (x_bld tz163 tpl163 rfl (.one rfl PC.nil) rfl) <| g rfl (o_all tz163 S fun b1 w S => g rfl (o_stA tag163 S 0 rfl rfl rfl rfl (c1 rfl (c1 rfl (c1 rfl (c1 rfl (c1 rfl (c1 rfl c0)))))) rfl fun w S => sq (sq (rg (mv (pt bx0) rfl ?_)))))
 obtain ⟨y2, hy3, H⟩ := obx H
 refine g rfl (cl fb87 (@r11_P_sign.ok k x0 _ _ _ _ _ _ hG (S.sel 3 [1, 2, 0] rfl) x0h2 hy3) rfl ?_)
 rintro _ w ⟨y2_1v2, J4, hJ5, rfl, y2_1h2, S⟩
 have hI := hI.trans hJ5
 have hG := hG.mono hJ5
 refine u rfl (x_bin rfl rfl rfl) ?_
 obtain ⟨o9, H, HO10⟩ := obx H
 have hL11 := ilr J4
 refine FW.cutN (fun σ w => ∃ (n7 : Int) (b8 : Bool) (J6 : IMem), (n7, b8) = o9 ∧ Has σ [(0, pt bx0), (3, pt b1)] ∧ J4.le J6 ∧ Own J6 w (.bk bx0 135 [.string y2.2.S, .int .i64 n7, y2_1v2, .bool y2.2.Bad] :: .tv y2_1v2 163 6 :: .bk b1 163 [.int .u8 115, (.slice none 0 0), (.slice none 0 0), (.slice none 0 0), .bool b8, .bool false] :: F)) ?_ ?_
 ·by_cases cc12 : y2.1 = 94
  ·rw [if_pos cc12] at H
   refine cT rfl (eqT cc12) <| sq <| FW.anew [(0, pt bx0), (3, pt b1)] ⟨rfl, rfl, trivial⟩ fun σ => rg <| u rfl (x_fa tf163_4 rfl) <| g rfl (o_st tone4 S 2 rfl rfl rfl rfl fun w S => rg (mv (pt bx0) rfl (mv (pt bx0) rfl (u rfl (x_nk rfl) (u rfl (x_fa tf135_1 rfl) (u rfl (x_ld tsc3 rfl (S.load 0 rfl 1 rfl)) (u rfl (x_bin rfl rfl rfl) (u rfl (x_nk rfl) (u rfl (x_fa tf135_1 rfl) (g rfl (o_st tone3 S 0 rfl rfl rfl rfl fun w S => ⟨(i64 (y2.2.At + 1)), true, J4, (si H), ⟨rfl, rfl, trivial⟩, hL11, S⟩)))))))))))
  rw [if_neg cc12] at H
  refine cF rfl (eqF cc12) <| sk ⟨y2.2.At, false, J4, (si H), ⟨rfl, rfl, trivial⟩, hL11, S⟩
 rintro σ w ⟨n7, b8, J6, ho, hσ, hL11, S⟩
 subst ho
 have H := HO10
 try dsimp only at H
 have y2_1h2 := y2_1h2.mono hL11
 have hI := hI.trans hL11
 have hG := hG.mono hL11
 rw [hσ.eq]
 refine sq <| sr <| mv (.int .i64 0) rfl <| bk ?_
 have S := S.nil_tv 3 1
 have S := S.nil_tv 3 1
 obtain ⟨o31, hl33, HO32⟩ := obx H
 refine FW.cutX 0 (fun σ w => ∃ (s35 : ByteArray) (n36 : Int) (l37 : (List T_r11_Node)) (b40 : Bool) (l41 : (List Int)) (l44 : (List Int)) (v38 : Value) (v42 : Value) (v45 : Value) (J34 : IMem), (.inr (s35, n36, l37, b40, l41, l44)) = o31 ∧ Has σ [(0, pt bx0)] ∧ J6.le J34 ∧ Own J34 w (.tv v45 3 1 :: .tv v42 3 1 :: .bk bx0 135 [.string s35, .int .i64 n36, v38, .bool b40] :: .tv v38 163 6 :: .bk b1 163 [.int .u8 115, (.slice none 0 0), v42, v45, .bool b8, .bool false] :: F) ∧ SlR R_r11_Node J34 v38 l37 ∧ SlR (tInt' .i64) J34 v42 l41 ∧ SlR (tInt' .i64) J34 v45 l44) ?_ ?_
 ·refine FW.loop k (FL.ind (fun q σ w => ∃ (n16 : Int) (s17 : ByteArray) (n18 : Int) (l19 : (List T_r11_Node)) (b22 : Bool) (l23 : (List Int)) (l26 : (List Int)) (v20 : Value) (v24 : Value) (v27 : Value) (J15 : IMem), r11_P_set.l0 q b8 n16 s17 n18 l19 b22 l23 l26 = some o31 ∧ q ≤ k ∧ Has σ [(0, pt bx0), (3, pt b1), (4, .int .i64 n16)] ∧ J6.le J15 ∧ Own J15 w (.tv v27 3 1 :: .tv v24 3 1 :: .bk bx0 135 [.string s17, .int .i64 n18, v20, .bool b22] :: .tv v20 163 6 :: .bk b1 163 [.int .u8 115, (.slice none 0 0), v24, v27, .bool b8, .bool false] :: F) ∧ SlR R_r11_Node J15 v20 l19 ∧ SlR (tInt' .i64) J15 v24 l23 ∧ SlR (tInt' .i64) J15 v27 l26) ?_ ?_ k k _ _ (Nat.le_refl _) ⟨0, y2.2.S, n7, y2.2.N, y2.2.Bad, [], [], y2_1v2, (.slice none 0 0), (.slice none 0 0), J6, hl33, Nat.le_refl _, ⟨rfl, rfl, rfl, trivial⟩, (ilr _), S, y2_1h2, (SlR.nil _ _), (SlR.nil _ _)⟩)
  ·rintro σ w ⟨n16, s17, n18, l19, b22, l23, l26, v20, v24, v27, J15, H, _⟩; cases H
  rintro q29 σ w ⟨n16, s17, n18, l19, b22, l23, l26, v20, v24, v27, J15, H, hq47, hσ, hL30, S, h21, h25, h28⟩
  have hI := hI.trans hL30
  have hG := hG.mono hL30
  rw [hσ.eq]
  rw [r11_P_set.l0] at H
  refine sq <| sr <| mv (.int .i64 n16) rfl <| mv (pt bx0) rfl <| u rfl (x_nk rfl) <| u rfl (x_fa tf135_0 rfl) <| u rfl (x_ld tsc9 rfl (S.load 2 rfl 0 rfl)) <| u rfl (x_lens tstr9 rfl) <| u rfl (x_bin rfl rfl rfl) <| mv (.bool (decide (n16 ≤ (s17.size : Int)))) rfl ?_
  by_cases cc48 : n16 ≤ (s17.size : Int)
  ·rw [if_pos cc48] at H
   refine gu rfl rfl rfl (deT cc48) (x_movV (v := pt bx0) rfl) <| gu rfl rfl rfl (deT cc48) (x_nk rfl) <| gu rfl rfl rfl (deT cc48) (x_fa tf135_3 rfl) <| gu rfl rfl rfl (deT cc48) (x_ld tsc4 rfl (S.load 2 rfl 3 rfl)) <| gu rfl rfl rfl (deT cc48) (x_not' rfl) <| u rfl (x_pickTV (v := .bool (!b22)) rfl (deT cc48) rfl) ?_
   by_cases cc49 : b22 = true
   ·rw [if_pos cc49] at H
    refine cF rfl (noF cc49) <| ex ⟨s17, n18, l19, b22, l23, l26, v20, v24, v27, J15, (si H), ⟨rfl, trivial⟩, hL30, S, h21, h25, h28⟩
   rw [if_neg cc49] at H
   refine cT rfl (noT (vaF cc49)) <| sk <| sq <| bk <| sq <| FW.anew [(0, pt bx0), (3, pt b1), (4, .int .i64 n16)] ⟨rfl, rfl, rfl, trivial⟩ fun σ => rg <| mv (pt bx0) rfl ?_
   obtain ⟨y50, hy51, H⟩ := obx H
   refine g rfl (cl fb87 (@r11_P_sign.ok q29 (T_r11_P.mk s17 n18 l19 b22) _ _ _ _ _ _ hG (S.sel 5 [2, 3, 0, 1, 4] rfl) h21 hy51) rfl ?_)
   rintro _ w ⟨y50_1v2, J52, hJ53, rfl, y50_1h2, S⟩
   have h25 := h25.mono hJ53
   have h28 := h28.mono hJ53
   have hI := hI.trans hJ53
   have hL30 := hL30.trans hJ53
   have hG := hG.mono hJ53
   refine mv (.int .u8 y50.1) rfl <| bk <| sr <| mv (.int .u8 y50.1) rfl <| u rfl (x_bin rfl rfl rfl) <| mv (.bool (y50.1 == 44)) rfl ?_
   by_cases cc54 : y50.1 = 44
   ·rw [if_pos cc54] at H
    refine cT rfl (eqT cc54) <| rg <| mv (pt bx0) rfl <| mv (pt bx0) rfl <| u rfl (x_nk rfl) <| u rfl (x_fa tf135_1 rfl) <| u rfl (x_ld tsc3 rfl (S.load 0 rfl 1 rfl)) <| u rfl (x_bin rfl rfl rfl) <| u rfl (x_nk rfl) <| u rfl (x_fa tf135_1 rfl) <| g rfl (o_st tone3 S 0 rfl rfl rfl rfl fun w S => FW.anew [(0, pt bx0), (3, pt b1), (4, .int .i64 n16)] ⟨rfl, rfl, rfl, trivial⟩ fun σ => rg (mv (.int .i64 n16) rfl (u rfl (x_bin rfl rfl rfl) (mv (.int .i64 (i64 (n16 + 1))) rfl ⟨q29, Nat.le_refl _, (i64 (n16 + 1)), y50.2.S, (i64 (y50.2.At + 1)), y50.2.N, y50.2.Bad, l23, l26, y50_1v2, v24, v27, J52, H, (Nat.le_of_succ_le hq47), ⟨rfl, rfl, rfl, trivial⟩, hL30, (S.sel 5 [2, 3, 0, 1, 4] rfl), y50_1h2, h25, h28⟩))))
   rw [if_neg cc54] at H
   refine cF rfl (eqF cc54) <| sr <| mv (.int .u8 y50.1) rfl <| u rfl (x_bin rfl rfl rfl) <| mv (.bool (y50.1 == 93)) rfl ?_
   by_cases cc55 : y50.1 = 93
   ·rw [if_pos cc55] at H
    refine gu rfl rfl rfl (eqT cc55) (x_fa tf163_2 rfl) <| gu rfl rfl rfl (eqT cc55) (x_ld tsc161 rfl (S.load 4 rfl 2 rfl)) <| gu rfl rfl rfl (eqT cc55) (x_lenD (r := (tInt' .i64)) tsl161 h25) <| gu rfl rfl rfl (eqT cc55) (x_bin rfl rfl rfl) <| u rfl (x_pickTV (v := .bool (decide ((l23.length : Int) > 0))) rfl (eqT cc55) rfl) <| mv (.bool (decide ((l23.length : Int) > 0))) rfl ?_
    by_cases cc56 : (l23.length : Int) > 0
    ·rw [if_pos cc56] at H
     refine cT rfl (deT cc56) <| sq <| FW.anew [(0, pt bx0), (3, pt b1)] ⟨rfl, rfl, trivial⟩ fun σ => rg <| mv (pt bx0) rfl <| mv (pt bx0) rfl <| u rfl (x_nk rfl) <| u rfl (x_fa tf135_1 rfl) <| u rfl (x_ld tsc3 rfl (S.load 0 rfl 1 rfl)) <| u rfl (x_bin rfl rfl rfl) <| u rfl (x_nk rfl) <| u rfl (x_fa tf135_1 rfl) <| g rfl (o_st tone3 S 0 rfl rfl rfl rfl fun w S => sq (FW.anew [(0, pt bx0), (3, pt b1)] ⟨rfl, rfl, trivial⟩ fun σ => rg (mv (pt bx0) rfl (u rfl (x_ldA tag163 rfl (S.loadW 4 rfl) rfl) ?_))))
     obtain ⟨y57, hy58, H⟩ := obx H
     refine g rfl (cl fb120 (@r11_P_put.ok q29 (T_r11_P.mk y50.2.S (i64 (y50.2.At + 1)) y50.2.N y50.2.Bad) (T_r11_Node.mk 115 [] l23 l26 b8 false) _ _ _ _ _ _ _ _ _ hG S y50_1h2 (SlR.nil _ _) h25 h28 hy58) rfl ?_)
     rintro _ w ⟨y57_1v2, J59, hJ60, rfl, y57_1h2, S⟩
     have hI := hI.trans hJ60
     refine mv (.int .i64 y57.1) rfl <| rt ?_
     obtain rfl := si H
     obtain rfl := si HO32
     exact ⟨_, ⟨_, rfl, rfl⟩, ⟨y57_1v2, J59, hI, rfl, y57_1h2, (S.sel 5 [0, 1] rfl)⟩⟩
    rw [if_neg cc56] at H
    refine cF rfl (deF cc56) <| sq <| FW.anew [(0, pt bx0), (3, pt b1), (4, .int .i64 n16), (5, .int .u8 y50.1)] ⟨rfl, rfl, rfl, rfl, trivial⟩ fun σ => rg <| mv (.int .u8 y50.1) rfl ?_
    obtain ⟨y61, hy62, H⟩ := obx H
    refine g rfl (cl fb150 (@r11_digit.ok q29 y50.1 _ _ _ _ hG S hy62) rfl ?_)
    rintro _ w ⟨rfl, S⟩
    refine mv (.bool y61) rfl ?_
    by_cases cc63 : y61 = true
    ·rw [if_pos cc63] at H
     refine cT rfl cc63 <| sr <| mv (pt bx0) rfl ?_
     obtain ⟨y64, hy65, H⟩ := obx H
     refine g rfl (cl fb151 (@r11_P_num.ok q29 y50.2 _ _ _ _ _ _ hG S y50_1h2 hy65) rfl ?_)
     rintro _ w ⟨y64_1v2, J66, hJ67, rfl, y64_1h2, S⟩
     have h25 := h25.mono hJ67
     have h28 := h28.mono hJ67
     have hL30 := hL30.trans hJ67
     have hG := hG.mono hJ67
     refine mv (.int .i64 y64.1) rfl <| sr <| mv (.int .i64 y64.1) rfl <| mv (.int .i64 y64.1) rfl <| sq <| sq <| FW.anew [(0, pt bx0), (3, pt b1), (4, .int .i64 n16), (6, .int .i64 y64.1), (7, .int .i64 y64.1)] ⟨rfl, rfl, rfl, rfl, rfl, trivial⟩ fun σ => ?_
     have S := S.drew
     refine FW.regionD mixed ?_
     have hO := Hold.nil (w := { w with drawn := w.drawn + 1 })
     refine am 0 (pt bx0) rfl (by kernel_rfl) hO <| ap 1 rfl (by kernel_rfl) hO (fun w => x_nk rfl) <| ap 2 rfl (by kernel_rfl) hO (fun w => x_fa tf135_1 rfl) ?_
     have hR68 := ilr J66
     refine ak (Stab J66 [.bk bx0 135 [.string y64.2.S, .int .i64 y64.2.At, y64_1v2, .bool y64.2.Bad]]) 3 rfl (by kernel_rfl) hO (Stab.of S 0 rfl hR68) (fun w hS => x_ld tsc3 rfl (hS.load 0 rfl 1 rfl)) fun hO => am 4 (pt bx0) rfl (by kernel_rfl) hO <| ap 5 rfl (by kernel_rfl) hO (fun w => x_nk rfl) <| ap 6 rfl (by kernel_rfl) hO (fun w => x_fa tf135_0 rfl) <| ak (Stab J66 [.bk bx0 135 [.string y64.2.S, .int .i64 y64.2.At, y64_1v2, .bool y64.2.Bad]]) 7 rfl (by kernel_rfl) hO (Stab.of S 0 rfl hR68) (fun w hS => x_ld tsc9 rfl (hS.load 0 rfl 0 rfl)) fun hO => ap 8 rfl (by kernel_rfl) hO (fun w => x_lens tstr9 rfl) <| ap 9 rfl (by kernel_rfl) hO (fun w => x_bin rfl rfl rfl) <| am 10 (.bool (decide (y64.2.At < (y64.2.S.size : Int)))) rfl (by kernel_rfl) hO ?_
     by_cases cc69 : y64.2.At < (y64.2.S.size : Int)
     ·rw [if_pos cc69] at H
      refine AQ.pure 11 rfl (by kernel_rfl) (by kernel_rfl) (by kernel_rfl) (gT rfl rfl (deT cc69)) hO (fun w => x_movV (v := pt bx0) rfl) <| AQ.pure 12 rfl (by kernel_rfl) (by kernel_rfl) (by kernel_rfl) (gT rfl rfl (deT cc69)) hO (fun w => x_nk rfl) <| AQ.pure 13 rfl (by kernel_rfl) (by kernel_rfl) (by kernel_rfl) (gT rfl rfl (deT cc69)) hO (fun w => x_fa tf135_0 rfl) <| AQ.take (S := Stab J66 [.bk bx0 135 [.string y64.2.S, .int .i64 y64.2.At, y64_1v2, .bool y64.2.Bad]]) 14 rfl (by kernel_rfl) (by kernel_rfl) (by kernel_rfl) (gT rfl rfl (deT cc69)) hO (Stab.of S 0 rfl hR68) (fun w hS => x_ld tsc9 rfl (hS.load 0 rfl 0 rfl)) fun hO => AQ.pure 15 rfl (by kernel_rfl) (by kernel_rfl) (by kernel_rfl) (gT rfl rfl (deT cc69)) hO (fun w => x_movV (v := pt bx0) rfl) <| AQ.pure 16 rfl (by kernel_rfl) (by kernel_rfl) (by kernel_rfl) (gT rfl rfl (deT cc69)) hO (fun w => x_nk rfl) <| AQ.pure 17 rfl (by kernel_rfl) (by kernel_rfl) (by kernel_rfl) (gT rfl rfl (deT cc69)) hO (fun w => x_fa tf135_1 rfl) <| AQ.take (S := Stab J66 [.bk bx0 135 [.string y64.2.S, .int .i64 y64.2.At, y64_1v2, .bool y64.2.Bad]]) 18 rfl (by kernel_rfl) (by kernel_rfl) (by kernel_rfl) (gT rfl rfl (deT cc69)) hO (Stab.of S 0 rfl hR68) (fun w hS => x_ld tsc3 rfl (hS.load 0 rfl 1 rfl)) fun hO => ?_
      obtain ⟨y70, h71, H⟩ := obx H
      refine AQ.pure 19 rfl (by kernel_rfl) (by kernel_rfl) (by kernel_rfl) (gT rfl rfl (deT cc69)) hO (fun w => x_sat tstr9 rfl rfl h71) <| AQ.pure 20 rfl (by kernel_rfl) (by kernel_rfl) (by kernel_rfl) (gT rfl rfl (deT cc69)) hO (fun w => x_bin rfl rfl rfl) <| ap 21 rfl (by kernel_rfl) hO (fun w => x_pickTV (v := .bool (y70 == 45)) rfl (deT cc69) rfl) <| AQ.done (by kernel_rfl) ?_
      obtain ⟨o80, H, HO81⟩ := obx H
      have hL82 := ilr J66
      refine FW.cutN (fun σ w => ∃ (n73 : Int) (s74 : ByteArray) (n75 : Int) (l76 : (List T_r11_Node)) (b79 : Bool) (v77 : Value) (J72 : IMem), (n73, s74, n75, l76, b79) = o80 ∧ Has σ [(0, pt bx0), (3, pt b1), (4, .int .i64 n16), (6, .int .i64 y64.1), (7, .int .i64 n73)] ∧ J66.le J72 ∧ Own J72 w (.bk bx0 135 [.string s74, .int .i64 n75, v77, .bool b79] :: .tv v77 163 6 :: .tv v27 3 1 :: .tv v24 3 1 :: .bk b1 163 [.int .u8 115, (.slice none 0 0), v24, v27, .bool b8, .bool false] :: F) ∧ SlR R_r11_Node J72 v77 l76) ?_ ?_
      ·by_cases cc83 : y70 = 45
       ·rw [if_pos cc83] at H
        refine cT rfl (eqT cc83) <| sq <| FW.anew [(0, pt bx0), (3, pt b1), (4, .int .i64 n16), (6, .int .i64 y64.1)] ⟨rfl, rfl, rfl, rfl, trivial⟩ fun σ => rg <| mv (pt bx0) rfl <| mv (pt bx0) rfl <| u rfl (x_nk rfl) <| u rfl (x_fa tf135_1 rfl) <| u rfl (x_ld tsc3 rfl (S.load 0 rfl 1 rfl)) <| u rfl (x_bin rfl rfl rfl) <| u rfl (x_nk rfl) <| u rfl (x_fa tf135_1 rfl) <| g rfl (o_st tone3 S 0 rfl rfl rfl rfl fun w S => FW.anew [(0, pt bx0), (3, pt b1), (4, .int .i64 n16), (6, .int .i64 y64.1)] ⟨rfl, rfl, rfl, rfl, trivial⟩ fun σ => rg (mv (pt bx0) rfl ?_))
        obtain ⟨y84, hy85, H⟩ := obx H
        refine g rfl (cl fb151 (@r11_P_num.ok q29 (T_r11_P.mk y64.2.S (i64 (y64.2.At + 1)) y64.2.N y64.2.Bad) _ _ _ _ _ _ hG S y64_1h2 hy85) rfl ?_)
        rintro _ w ⟨y84_1v2, J86, hJ87, rfl, y84_1h2, S⟩
        have hL82 := hL82.trans hJ87
        refine mv (.int .i64 y84.1) rfl ⟨y84.1, y84.2.S, y84.2.At, y84.2.N, y84.2.Bad, y84_1v2, J86, (si H), ⟨rfl, rfl, rfl, rfl, rfl, trivial⟩, hL82, S, y84_1h2⟩
       rw [if_neg cc83] at H
       refine cF rfl (eqF cc83) <| sk ⟨y64.1, y64.2.S, y64.2.At, y64.2.N, y64.2.Bad, y64_1v2, J66, (si H), ⟨rfl, rfl, rfl, rfl, rfl, trivial⟩, hL82, S, y64_1h2⟩
      rintro σ w ⟨n73, s74, n75, l76, b79, v77, J72, ho, hσ, hL82, S, h78⟩
      subst ho
      have H := HO81
      try dsimp only at H
      have h25 := h25.mono hL82
      have h28 := h28.mono hL82
      have hL30 := hL30.trans hL82
      rw [hσ.eq]
      refine sr <| mv (pt bx0) rfl <| mv (pt bx0) rfl <| u rfl (x_nk rfl) <| u rfl (x_fa tf135_3 rfl) <| u rfl (x_ld tsc4 rfl (S.load 0 rfl 3 rfl)) <| mv (.bool b79) rfl ?_
      by_cases cc88 : b79 = true
      ·rw [if_pos cc88] at H
       refine gn rfl rfl rfl cc88 <| gn rfl rfl rfl cc88 <| gn rfl rfl rfl cc88 <| u rfl (x_pickTV (v := .bool true) rfl cc88 rfl) <| u rfl (x_nk rfl) <| u rfl (x_fa tf135_3 rfl) <| g rfl (o_st tone4 S 0 rfl rfl rfl rfl fun w S => sq (FW.anew [(0, pt bx0), (3, pt b1), (4, .int .i64 n16), (6, .int .i64 y64.1), (7, .int .i64 n73)] ⟨rfl, rfl, rfl, rfl, rfl, trivial⟩ fun σ => rg (u rfl (x_fa tf163_2 rfl) (u rfl (x_ld tsc161 rfl (S.load 4 rfl 2 rfl)) (mv (.int .i64 y64.1) rfl (g rfl (o_bsl tsl161 tz3 rfl rfl rfl rfl (.one rfl PC.nil) rfl S fun b89 w S => ?_)))))))
       obtain ⟨J90, hJ92, S, h91⟩ := S.freeze (r := (tInt' .i64)) (l := [y64.1]) 0 rfl ⟨[.int .i64 y64.1], _, rfl, rfl, rfl⟩ rfl rfl
       have h25 := h25.mono hJ92
       have h78 := h78.mono hJ92
       have h28 := h28.mono hJ92
       have hL30 := hL30.trans hJ92
       obtain ⟨l93, h95, H⟩ := obx H
       refine g rfl (o_appD (r := (tInt' .i64)) tsl161 rfl tz3 rfl rfl S 4 rfl rfl h25 h91 h95 fun v94 w J97 hJ98 S h96 => ?_)
       have h78 := h78.mono hJ98
       have h28 := h28.mono hJ98
       have hL30 := hL30.trans hJ98
       refine u rfl (x_fa tf163_2 rfl) <| g rfl (o_st tone161 S 5 rfl rfl rfl h96.one fun w S => FW.anew [(0, pt bx0), (3, pt b1), (4, .int .i64 n16), (7, .int .i64 n73)] ⟨rfl, rfl, rfl, rfl, trivial⟩ fun σ => rg (u rfl (x_fa tf163_3 rfl) (u rfl (x_ld tsc161 rfl (S.load 5 rfl 3 rfl)) (mv (.int .i64 n73) rfl (g rfl (o_bsl tsl161 tz3 rfl rfl rfl rfl (.one rfl PC.nil) rfl S fun b99 w S => ?_))))))
       obtain ⟨J100, hJ102, S, h101⟩ := S.freeze (r := (tInt' .i64)) (l := [n73]) 0 rfl ⟨[.int .i64 n73], _, rfl, rfl, rfl⟩ rfl rfl
       have h28 := h28.mono hJ102
       have h78 := h78.mono hJ102
       have h96 := h96.mono hJ102
       have hL30 := hL30.trans hJ102
       obtain ⟨l103, h105, H⟩ := obx H
       refine g rfl (o_appD (r := (tInt' .i64)) tsl161 rfl tz3 rfl rfl S 4 rfl rfl h28 h101 h105 fun v104 w J107 hJ108 S h106 => ?_)
       have h78 := h78.mono hJ108
       have h96 := h96.mono hJ108
       have hL30 := hL30.trans hJ108
       refine u rfl (x_fa tf163_3 rfl) <| g rfl (o_st tone161 S 6 rfl rfl rfl h106.one fun w S => FW.anew [(0, pt bx0), (3, pt b1), (4, .int .i64 n16)] ⟨rfl, rfl, rfl, trivial⟩ fun σ => rg (mv (.int .i64 n16) rfl (u rfl (x_bin rfl rfl rfl) (mv (.int .i64 (i64 (n16 + 1))) rfl ⟨q29, Nat.le_refl _, (i64 (n16 + 1)), s74, n75, l76, true, l93, l103, v77, v94, v104, J107, H, (Nat.le_of_succ_le hq47), ⟨rfl, rfl, rfl, trivial⟩, hL30, (S.sel 7 [4, 5, 2, 3, 6] rfl), h78, h96, h106⟩))))
      rw [if_neg cc88] at H
      refine gu rfl rfl rfl (vaF cc88) (x_movV (v := .int .i64 y64.1) rfl) <| gu rfl rfl rfl (vaF cc88) (x_movV (v := .int .i64 n73) rfl) <| gu rfl rfl rfl (vaF cc88) (x_bin rfl rfl rfl) <| u rfl (x_pickFV (v := .bool (decide (y64.1 > n73))) rfl (vaF cc88) rfl) <| u rfl (x_nk rfl) <| u rfl (x_fa tf135_3 rfl) <| g rfl (o_st tone4 S 0 rfl rfl rfl rfl fun w S => sq (FW.anew [(0, pt bx0), (3, pt b1), (4, .int .i64 n16), (6, .int .i64 y64.1), (7, .int .i64 n73)] ⟨rfl, rfl, rfl, rfl, rfl, trivial⟩ fun σ => rg (u rfl (x_fa tf163_2 rfl) (u rfl (x_ld tsc161 rfl (S.load 4 rfl 2 rfl)) (mv (.int .i64 y64.1) rfl (g rfl (o_bsl tsl161 tz3 rfl rfl rfl rfl (.one rfl PC.nil) rfl S fun b109 w S => ?_)))))))
      obtain ⟨J110, hJ112, S, h111⟩ := S.freeze (r := (tInt' .i64)) (l := [y64.1]) 0 rfl ⟨[.int .i64 y64.1], _, rfl, rfl, rfl⟩ rfl rfl
      have h25 := h25.mono hJ112
      have h78 := h78.mono hJ112
      have h28 := h28.mono hJ112
      have hL30 := hL30.trans hJ112
      obtain ⟨l113, h115, H⟩ := obx H
      refine g rfl (o_appD (r := (tInt' .i64)) tsl161 rfl tz3 rfl rfl S 4 rfl rfl h25 h111 h115 fun v114 w J117 hJ118 S h116 => ?_)
      have h78 := h78.mono hJ118
      have h28 := h28.mono hJ118
      have hL30 := hL30.trans hJ118
      refine u rfl (x_fa tf163_2 rfl) <| g rfl (o_st tone161 S 5 rfl rfl rfl h116.one fun w S => FW.anew [(0, pt bx0), (3, pt b1), (4, .int .i64 n16), (7, .int .i64 n73)] ⟨rfl, rfl, rfl, rfl, trivial⟩ fun σ => rg (u rfl (x_fa tf163_3 rfl) (u rfl (x_ld tsc161 rfl (S.load 5 rfl 3 rfl)) (mv (.int .i64 n73) rfl (g rfl (o_bsl tsl161 tz3 rfl rfl rfl rfl (.one rfl PC.nil) rfl S fun b119 w S => ?_))))))
      obtain ⟨J120, hJ122, S, h121⟩ := S.freeze (r := (tInt' .i64)) (l := [n73]) 0 rfl ⟨[.int .i64 n73], _, rfl, rfl, rfl⟩ rfl rfl
      have h28 := h28.mono hJ122
      have h78 := h78.mono hJ122
      have h116 := h116.mono hJ122
      have hL30 := hL30.trans hJ122
      obtain ⟨l123, h125, H⟩ := obx H
      refine g rfl (o_appD (r := (tInt' .i64)) tsl161 rfl tz3 rfl rfl S 4 rfl rfl h28 h121 h125 fun v124 w J127 hJ128 S h126 => ?_)
      have h78 := h78.mono hJ128
      have h116 := h116.mono hJ128
      have hL30 := hL30.trans hJ128
      refine u rfl (x_fa tf163_3 rfl) <| g rfl (o_st tone161 S 6 rfl rfl rfl h126.one fun w S => FW.anew [(0, pt bx0), (3, pt b1), (4, .int .i64 n16)] ⟨rfl, rfl, rfl, trivial⟩ fun σ => rg (mv (.int .i64 n16) rfl (u rfl (x_bin rfl rfl rfl) (mv (.int .i64 (i64 (n16 + 1))) rfl ⟨q29, Nat.le_refl _, (i64 (n16 + 1)), s74, n75, l76, (decide (y64.1 > n73)), l113, l123, v77, v114, v124, J127, H, (Nat.le_of_succ_le hq47), ⟨rfl, rfl, rfl, trivial⟩, hL30, (S.sel 7 [4, 5, 2, 3, 6] rfl), h78, h116, h126⟩))))
     rw [if_neg cc69] at H
     refine AQ.skip 11 rfl (by kernel_rfl) (by kernel_rfl) (by kernel_rfl) rfl rfl (deF cc69) hO <| AQ.skip 12 rfl (by kernel_rfl) (by kernel_rfl) (by kernel_rfl) rfl rfl (deF cc69) hO <| AQ.skip 13 rfl (by kernel_rfl) (by kernel_rfl) (by kernel_rfl) rfl rfl (deF cc69) hO <| AQ.skip 14 rfl (by kernel_rfl) (by kernel_rfl) (by kernel_rfl) rfl rfl (deF cc69) hO <| AQ.skip 15 rfl (by kernel_rfl) (by kernel_rfl) (by kernel_rfl) rfl rfl (deF cc69) hO <| AQ.skip 16 rfl (by kernel_rfl) (by kernel_rfl) (by kernel_rfl) rfl rfl (deF cc69) hO <| AQ.skip 17 rfl (by kernel_rfl) (by kernel_rfl) (by kernel_rfl) rfl rfl (deF cc69) hO <| AQ.skip 18 rfl (by kernel_rfl) (by kernel_rfl) (by kernel_rfl) rfl rfl (deF cc69) hO <| AQ.skip 19 rfl (by kernel_rfl) (by kernel_rfl) (by kernel_rfl) rfl rfl (deF cc69) hO <| AQ.skip 20 rfl (by kernel_rfl) (by kernel_rfl) (by kernel_rfl) rfl rfl (deF cc69) hO <| ap 21 rfl (by kernel_rfl) hO (fun w => x_pickFV (v := .bool false) rfl (deF cc69) rfl) <| AQ.done (by kernel_rfl) <| cF rfl rfl <| sk <| sq <| FW.anew [(0, pt bx0), (3, pt b1), (4, .int .i64 n16), (6, .int .i64 y64.1), (7, .int .i64 y64.1)] ⟨rfl, rfl, rfl, rfl, rfl, trivial⟩ fun σ => rg <| mv (pt bx0) rfl <| mv (pt bx0) rfl <| u rfl (x_nk rfl) <| u rfl (x_fa tf135_3 rfl) <| u rfl (x_ld tsc4 rfl (S.load 0 rfl 3 rfl)) <| mv (.bool y64.2.Bad) rfl ?_
     by_cases cc129 : y64.2.Bad = true
     ·rw [if_pos cc129] at H
      refine gn rfl rfl rfl cc129 <| gn rfl rfl rfl cc129 <| gn rfl rfl rfl cc129 <| u rfl (x_pickTV (v := .bool true) rfl cc129 rfl) <| u rfl (x_nk rfl) <| u rfl (x_fa tf135_3 rfl) <| g rfl (o_st tone4 S 0 rfl rfl rfl rfl fun w S => sq (FW.anew [(0, pt bx0), (3, pt b1), (4, .int .i64 n16), (6, .int .i64 y64.1), (7, .int .i64 y64.1)] ⟨rfl, rfl, rfl, rfl, rfl, trivial⟩ fun σ => rg (u rfl (x_fa tf163_2 rfl) (u rfl (x_ld tsc161 rfl (S.load 4 rfl 2 rfl)) (mv (.int .i64 y64.1) rfl (g rfl (o_bsl tsl161 tz3 rfl rfl rfl rfl (.one rfl PC.nil) rfl S fun b130 w S => ?_)))))))
      obtain ⟨J131, hJ133, S, h132⟩ := S.freeze (r := (tInt' .i64)) (l := [y64.1]) 0 rfl ⟨[.int .i64 y64.1], _, rfl, rfl, rfl⟩ rfl rfl
      have h25 := h25.mono hJ133
      have y64_1h2 := y64_1h2.mono hJ133
      have h28 := h28.mono hJ133
      have hL30 := hL30.trans hJ133
      obtain ⟨l134, h136, H⟩ := obx H
      refine g rfl (o_appD (r := (tInt' .i64)) tsl161 rfl tz3 rfl rfl S 4 rfl rfl h25 h132 h136 fun v135 w J138 hJ139 S h137 => ?_)
      have y64_1h2 := y64_1h2.mono hJ139
      have h28 := h28.mono hJ139
      have hL30 := hL30.trans hJ139
      refine u rfl (x_fa tf163_2 rfl) <| g rfl (o_st tone161 S 5 rfl rfl rfl h137.one fun w S => FW.anew [(0, pt bx0), (3, pt b1), (4, .int .i64 n16), (7, .int .i64 y64.1)] ⟨rfl, rfl, rfl, rfl, trivial⟩ fun σ => rg (u rfl (x_fa tf163_3 rfl) (u rfl (x_ld tsc161 rfl (S.load 5 rfl 3 rfl)) (mv (.int .i64 y64.1) rfl (g rfl (o_bsl tsl161 tz3 rfl rfl rfl rfl (.one rfl PC.nil) rfl S fun b140 w S => ?_))))))
      obtain ⟨J141, hJ143, S, h142⟩ := S.freeze (r := (tInt' .i64)) (l := [y64.1]) 0 rfl ⟨[.int .i64 y64.1], _, rfl, rfl, rfl⟩ rfl rfl
      have h28 := h28.mono hJ143
      have y64_1h2 := y64_1h2.mono hJ143
      have h137 := h137.mono hJ143
      have hL30 := hL30.trans hJ143
      obtain ⟨l144, h146, H⟩ := obx H
      refine g rfl (o_appD (r := (tInt' .i64)) tsl161 rfl tz3 rfl rfl S 4 rfl rfl h28 h142 h146 fun v145 w J148 hJ149 S h147 => ?_)
      have y64_1h2 := y64_1h2.mono hJ149
      have h137 := h137.mono hJ149
      have hL30 := hL30.trans hJ149
      refine u rfl (x_fa tf163_3 rfl) <| g rfl (o_st tone161 S 6 rfl rfl rfl h147.one fun w S => FW.anew [(0, pt bx0), (3, pt b1), (4, .int .i64 n16)] ⟨rfl, rfl, rfl, trivial⟩ fun σ => rg (mv (.int .i64 n16) rfl (u rfl (x_bin rfl rfl rfl) (mv (.int .i64 (i64 (n16 + 1))) rfl ⟨q29, Nat.le_refl _, (i64 (n16 + 1)), y64.2.S, y64.2.At, y64.2.N, true, l134, l144, y64_1v2, v135, v145, J148, H, (Nat.le_of_succ_le hq47), ⟨rfl, rfl, rfl, trivial⟩, hL30, (S.sel 7 [4, 5, 2, 3, 6] rfl), y64_1h2, h137, h147⟩))))
     rw [if_neg cc129] at H
     refine gu rfl rfl rfl (vaF cc129) (x_movV (v := .int .i64 y64.1) rfl) <| gu rfl rfl rfl (vaF cc129) (x_movV (v := .int .i64 y64.1) rfl) <| gu rfl rfl rfl (vaF cc129) (x_bin rfl rfl rfl) <| u rfl (x_pickFV (v := .bool (decide (y64.1 > y64.1))) rfl (vaF cc129) rfl) <| u rfl (x_nk rfl) <| u rfl (x_fa tf135_3 rfl) <| g rfl (o_st tone4 S 0 rfl rfl rfl rfl fun w S => sq (FW.anew [(0, pt bx0), (3, pt b1), (4, .int .i64 n16), (6, .int .i64 y64.1), (7, .int .i64 y64.1)] ⟨rfl, rfl, rfl, rfl, rfl, trivial⟩ fun σ => rg (u rfl (x_fa tf163_2 rfl) (u rfl (x_ld tsc161 rfl (S.load 4 rfl 2 rfl)) (mv (.int .i64 y64.1) rfl (g rfl (o_bsl tsl161 tz3 rfl rfl rfl rfl (.one rfl PC.nil) rfl S fun b150 w S => ?_)))))))
     obtain ⟨J151, hJ153, S, h152⟩ := S.freeze (r := (tInt' .i64)) (l := [y64.1]) 0 rfl ⟨[.int .i64 y64.1], _, rfl, rfl, rfl⟩ rfl rfl
     have h25 := h25.mono hJ153
     have y64_1h2 := y64_1h2.mono hJ153
     have h28 := h28.mono hJ153
     have hL30 := hL30.trans hJ153
     obtain ⟨l154, h156, H⟩ := obx H
     refine g rfl (o_appD (r := (tInt' .i64)) tsl161 rfl tz3 rfl rfl S 4 rfl rfl h25 h152 h156 fun v155 w J158 hJ159 S h157 => ?_)
     have y64_1h2 := y64_1h2.mono hJ159
     have h28 := h28.mono hJ159
     have hL30 := hL30.trans hJ159
     refine u rfl (x_fa tf163_2 rfl) <| g rfl (o_st tone161 S 5 rfl rfl rfl h157.one fun w S => FW.anew [(0, pt bx0), (3, pt b1), (4, .int .i64 n16), (7, .int .i64 y64.1)] ⟨rfl, rfl, rfl, rfl, trivial⟩ fun σ => rg (u rfl (x_fa tf163_3 rfl) (u rfl (x_ld tsc161 rfl (S.load 5 rfl 3 rfl)) (mv (.int .i64 y64.1) rfl (g rfl (o_bsl tsl161 tz3 rfl rfl rfl rfl (.one rfl PC.nil) rfl S fun b160 w S => ?_))))))
     obtain ⟨J161, hJ163, S, h162⟩ := S.freeze (r := (tInt' .i64)) (l := [y64.1]) 0 rfl ⟨[.int .i64 y64.1], _, rfl, rfl, rfl⟩ rfl rfl
     have h28 := h28.mono hJ163
     have y64_1h2 := y64_1h2.mono hJ163
     have h157 := h157.mono hJ163
     have hL30 := hL30.trans hJ163
     obtain ⟨l164, h166, H⟩ := obx H
     refine g rfl (o_appD (r := (tInt' .i64)) tsl161 rfl tz3 rfl rfl S 4 rfl rfl h28 h162 h166 fun v165 w J168 hJ169 S h167 => ?_)
     have y64_1h2 := y64_1h2.mono hJ169
     have h157 := h157.mono hJ169
     have hL30 := hL30.trans hJ169
     refine u rfl (x_fa tf163_3 rfl) <| g rfl (o_st tone161 S 6 rfl rfl rfl h167.one fun w S => FW.anew [(0, pt bx0), (3, pt b1), (4, .int .i64 n16)] ⟨rfl, rfl, rfl, trivial⟩ fun σ => rg (mv (.int .i64 n16) rfl (u rfl (x_bin rfl rfl rfl) (mv (.int .i64 (i64 (n16 + 1))) rfl ⟨q29, Nat.le_refl _, (i64 (n16 + 1)), y64.2.S, y64.2.At, y64.2.N, (decide (y64.1 > y64.1)), l154, l164, y64_1v2, v155, v165, J168, H, (Nat.le_of_succ_le hq47), ⟨rfl, rfl, rfl, trivial⟩, hL30, (S.sel 7 [4, 5, 2, 3, 6] rfl), y64_1h2, h157, h167⟩))))
    rw [if_neg cc63] at H
    refine cF rfl (vaF cc63) <| rg <| mv (pt bx0) rfl <| u rfl (x_nk rfl) <| u rfl (x_fa tf135_3 rfl) <| g rfl (o_st tone4 S 0 rfl rfl rfl rfl fun w S => FW.anew [(0, pt bx0), (3, pt b1), (4, .int .i64 n16)] ⟨rfl, rfl, rfl, trivial⟩ fun σ => rg (mv (.int .i64 n16) rfl (u rfl (x_bin rfl rfl rfl) (mv (.int .i64 (i64 (n16 + 1))) rfl ⟨q29, Nat.le_refl _, (i64 (n16 + 1)), y50.2.S, y50.2.At, y50.2.N, true, l23, l26, y50_1v2, v24, v27, J52, H, (Nat.le_of_succ_le hq47), ⟨rfl, rfl, rfl, trivial⟩, hL30, (S.sel 5 [2, 3, 0, 1, 4] rfl), y50_1h2, h25, h28⟩))))
   rw [if_neg cc55] at H
   refine gn rfl rfl rfl (eqF cc55) <| gn rfl rfl rfl (eqF cc55) <| gn rfl rfl rfl (eqF cc55) <| gn rfl rfl rfl (eqF cc55) <| u rfl (x_pickFV (v := .bool false) rfl (eqF cc55) rfl) <| mv (.bool false) rfl <| cF rfl rfl <| sq <| FW.anew [(0, pt bx0), (3, pt b1), (4, .int .i64 n16), (5, .int .u8 y50.1)] ⟨rfl, rfl, rfl, rfl, trivial⟩ fun σ => rg <| mv (.int .u8 y50.1) rfl ?_
   obtain ⟨y170, hy171, H⟩ := obx H
   refine g rfl (cl fb150 (@r11_digit.ok q29 y50.1 _ _ _ _ hG S hy171) rfl ?_)
   rintro _ w ⟨rfl, S⟩
   refine mv (.bool y170) rfl ?_
   by_cases cc172 : y170 = true
   ·rw [if_pos cc172] at H
    refine cT rfl cc172 <| sr <| mv (pt bx0) rfl ?_
    obtain ⟨y173, hy174, H⟩ := obx H
    refine g rfl (cl fb151 (@r11_P_num.ok q29 y50.2 _ _ _ _ _ _ hG S y50_1h2 hy174) rfl ?_)
    rintro _ w ⟨y173_1v2, J175, hJ176, rfl, y173_1h2, S⟩
    have h25 := h25.mono hJ176
    have h28 := h28.mono hJ176
    have hL30 := hL30.trans hJ176
    have hG := hG.mono hJ176
    refine mv (.int .i64 y173.1) rfl <| sr <| mv (.int .i64 y173.1) rfl <| mv (.int .i64 y173.1) rfl <| sq <| sq <| FW.anew [(0, pt bx0), (3, pt b1), (4, .int .i64 n16), (6, .int .i64 y173.1), (7, .int .i64 y173.1)] ⟨rfl, rfl, rfl, rfl, rfl, trivial⟩ fun σ => ?_
    have S := S.drew
    refine FW.regionD mixed ?_
    have hO := Hold.nil (w := { w with drawn := w.drawn + 1 })
    refine am 0 (pt bx0) rfl (by kernel_rfl) hO <| ap 1 rfl (by kernel_rfl) hO (fun w => x_nk rfl) <| ap 2 rfl (by kernel_rfl) hO (fun w => x_fa tf135_1 rfl) ?_
    have hR177 := ilr J175
    refine ak (Stab J175 [.bk bx0 135 [.string y173.2.S, .int .i64 y173.2.At, y173_1v2, .bool y173.2.Bad]]) 3 rfl (by kernel_rfl) hO (Stab.of S 0 rfl hR177) (fun w hS => x_ld tsc3 rfl (hS.load 0 rfl 1 rfl)) fun hO => am 4 (pt bx0) rfl (by kernel_rfl) hO <| ap 5 rfl (by kernel_rfl) hO (fun w => x_nk rfl) <| ap 6 rfl (by kernel_rfl) hO (fun w => x_fa tf135_0 rfl) <| ak (Stab J175 [.bk bx0 135 [.string y173.2.S, .int .i64 y173.2.At, y173_1v2, .bool y173.2.Bad]]) 7 rfl (by kernel_rfl) hO (Stab.of S 0 rfl hR177) (fun w hS => x_ld tsc9 rfl (hS.load 0 rfl 0 rfl)) fun hO => ap 8 rfl (by kernel_rfl) hO (fun w => x_lens tstr9 rfl) <| ap 9 rfl (by kernel_rfl) hO (fun w => x_bin rfl rfl rfl) <| am 10 (.bool (decide (y173.2.At < (y173.2.S.size : Int)))) rfl (by kernel_rfl) hO ?_
    by_cases cc178 : y173.2.At < (y173.2.S.size : Int)
    ·rw [if_pos cc178] at H
     refine AQ.pure 11 rfl (by kernel_rfl) (by kernel_rfl) (by kernel_rfl) (gT rfl rfl (deT cc178)) hO (fun w => x_movV (v := pt bx0) rfl) <| AQ.pure 12 rfl (by kernel_rfl) (by kernel_rfl) (by kernel_rfl) (gT rfl rfl (deT cc178)) hO (fun w => x_nk rfl) <| AQ.pure 13 rfl (by kernel_rfl) (by kernel_rfl) (by kernel_rfl) (gT rfl rfl (deT cc178)) hO (fun w => x_fa tf135_0 rfl) <| AQ.take (S := Stab J175 [.bk bx0 135 [.string y173.2.S, .int .i64 y173.2.At, y173_1v2, .bool y173.2.Bad]]) 14 rfl (by kernel_rfl) (by kernel_rfl) (by kernel_rfl) (gT rfl rfl (deT cc178)) hO (Stab.of S 0 rfl hR177) (fun w hS => x_ld tsc9 rfl (hS.load 0 rfl 0 rfl)) fun hO => AQ.pure 15 rfl (by kernel_rfl) (by kernel_rfl) (by kernel_rfl) (gT rfl rfl (deT cc178)) hO (fun w => x_movV (v := pt bx0) rfl) <| AQ.pure 16 rfl (by kernel_rfl) (by kernel_rfl) (by kernel_rfl) (gT rfl rfl (deT cc178)) hO (fun w => x_nk rfl) <| AQ.pure 17 rfl (by kernel_rfl) (by kernel_rfl) (by kernel_rfl) (gT rfl rfl (deT cc178)) hO (fun w => x_fa tf135_1 rfl) <| AQ.take (S := Stab J175 [.bk bx0 135 [.string y173.2.S, .int .i64 y173.2.At, y173_1v2, .bool y173.2.Bad]]) 18 rfl (by kernel_rfl) (by kernel_rfl) (by kernel_rfl) (gT rfl rfl (deT cc178)) hO (Stab.of S 0 rfl hR177) (fun w hS => x_ld tsc3 rfl (hS.load 0 rfl 1 rfl)) fun hO => ?_
     obtain ⟨y179, h180, H⟩ := obx H
     refine AQ.pure 19 rfl (by kernel_rfl) (by kernel_rfl) (by kernel_rfl) (gT rfl rfl (deT cc178)) hO (fun w => x_sat tstr9 rfl rfl h180) <| AQ.pure 20 rfl (by kernel_rfl) (by kernel_rfl) (by kernel_rfl) (gT rfl rfl (deT cc178)) hO (fun w => x_bin rfl rfl rfl) <| ap 21 rfl (by kernel_rfl) hO (fun w => x_pickTV (v := .bool (y179 == 45)) rfl (deT cc178) rfl) <| AQ.done (by kernel_rfl) ?_
     obtain ⟨o189, H, HO190⟩ := obx H
     have hL191 := ilr J175
     refine FW.cutN (fun σ w => ∃ (n182 : Int) (s183 : ByteArray) (n184 : Int) (l185 : (List T_r11_Node)) (b188 : Bool) (v186 : Value) (J181 : IMem), (n182, s183, n184, l185, b188) = o189 ∧ Has σ [(0, pt bx0), (3, pt b1), (4, .int .i64 n16), (6, .int .i64 y173.1), (7, .int .i64 n182)] ∧ J175.le J181 ∧ Own J181 w (.bk bx0 135 [.string s183, .int .i64 n184, v186, .bool b188] :: .tv v186 163 6 :: .tv v27 3 1 :: .tv v24 3 1 :: .bk b1 163 [.int .u8 115, (.slice none 0 0), v24, v27, .bool b8, .bool false] :: F) ∧ SlR R_r11_Node J181 v186 l185) ?_ ?_
     ·by_cases cc192 : y179 = 45
      ·rw [if_pos cc192] at H
       refine cT rfl (eqT cc192) <| sq <| FW.anew [(0, pt bx0), (3, pt b1), (4, .int .i64 n16), (6, .int .i64 y173.1)] ⟨rfl, rfl, rfl, rfl, trivial⟩ fun σ => rg <| mv (pt bx0) rfl <| mv (pt bx0) rfl <| u rfl (x_nk rfl) <| u rfl (x_fa tf135_1 rfl) <| u rfl (x_ld tsc3 rfl (S.load 0 rfl 1 rfl)) <| u rfl (x_bin rfl rfl rfl) <| u rfl (x_nk rfl) <| u rfl (x_fa tf135_1 rfl) <| g rfl (o_st tone3 S 0 rfl rfl rfl rfl fun w S => FW.anew [(0, pt bx0), (3, pt b1), (4, .int .i64 n16), (6, .int .i64 y173.1)] ⟨rfl, rfl, rfl, rfl, trivial⟩ fun σ => rg (mv (pt bx0) rfl ?_))
       obtain ⟨y193, hy194, H⟩ := obx H
       refine g rfl (cl fb151 (@r11_P_num.ok q29 (T_r11_P.mk y173.2.S (i64 (y173.2.At + 1)) y173.2.N y173.2.Bad) _ _ _ _ _ _ hG S y173_1h2 hy194) rfl ?_)
       rintro _ w ⟨y193_1v2, J195, hJ196, rfl, y193_1h2, S⟩
       have hL191 := hL191.trans hJ196
       refine mv (.int .i64 y193.1) rfl ⟨y193.1, y193.2.S, y193.2.At, y193.2.N, y193.2.Bad, y193_1v2, J195, (si H), ⟨rfl, rfl, rfl, rfl, rfl, trivial⟩, hL191, S, y193_1h2⟩
      rw [if_neg cc192] at H
      refine cF rfl (eqF cc192) <| sk ⟨y173.1, y173.2.S, y173.2.At, y173.2.N, y173.2.Bad, y173_1v2, J175, (si H), ⟨rfl, rfl, rfl, rfl, rfl, trivial⟩, hL191, S, y173_1h2⟩
     rintro σ w ⟨n182, s183, n184, l185, b188, v186, J181, ho, hσ, hL191, S, h187⟩
     subst ho
     have H := HO190
     try dsimp only at H
     have h25 := h25.mono hL191
     have h28 := h28.mono hL191
     have hL30 := hL30.trans hL191
     rw [hσ.eq]
     refine sr <| mv (pt bx0) rfl <| mv (pt bx0) rfl <| u rfl (x_nk rfl) <| u rfl (x_fa tf135_3 rfl) <| u rfl (x_ld tsc4 rfl (S.load 0 rfl 3 rfl)) <| mv (.bool b188) rfl ?_
     by_cases cc197 : b188 = true
     ·rw [if_pos cc197] at H
      refine gn rfl rfl rfl cc197 <| gn rfl rfl rfl cc197 <| gn rfl rfl rfl cc197 <| u rfl (x_pickTV (v := .bool true) rfl cc197 rfl) <| u rfl (x_nk rfl) <| u rfl (x_fa tf135_3 rfl) <| g rfl (o_st tone4 S 0 rfl rfl rfl rfl fun w S => sq (FW.anew [(0, pt bx0), (3, pt b1), (4, .int .i64 n16), (6, .int .i64 y173.1), (7, .int .i64 n182)] ⟨rfl, rfl, rfl, rfl, rfl, trivial⟩ fun σ => rg (u rfl (x_fa tf163_2 rfl) (u rfl (x_ld tsc161 rfl (S.load 4 rfl 2 rfl)) (mv (.int .i64 y173.1) rfl (g rfl (o_bsl tsl161 tz3 rfl rfl rfl rfl (.one rfl PC.nil) rfl S fun b198 w S => ?_)))))))
      obtain ⟨J199, hJ201, S, h200⟩ := S.freeze (r := (tInt' .i64)) (l := [y173.1]) 0 rfl ⟨[.int .i64 y173.1], _, rfl, rfl, rfl⟩ rfl rfl
      have h25 := h25.mono hJ201
      have h187 := h187.mono hJ201
      have h28 := h28.mono hJ201
      have hL30 := hL30.trans hJ201
      obtain ⟨l202, h204, H⟩ := obx H
      refine g rfl (o_appD (r := (tInt' .i64)) tsl161 rfl tz3 rfl rfl S 4 rfl rfl h25 h200 h204 fun v203 w J206 hJ207 S h205 => ?_)
      have h187 := h187.mono hJ207
      have h28 := h28.mono hJ207
      have hL30 := hL30.trans hJ207
      refine u rfl (x_fa tf163_2 rfl) <| g rfl (o_st tone161 S 5 rfl rfl rfl h205.one fun w S => FW.anew [(0, pt bx0), (3, pt b1), (4, .int .i64 n16), (7, .int .i64 n182)] ⟨rfl, rfl, rfl, rfl, trivial⟩ fun σ => rg (u rfl (x_fa tf163_3 rfl) (u rfl (x_ld tsc161 rfl (S.load 5 rfl 3 rfl)) (mv (.int .i64 n182) rfl (g rfl (o_bsl tsl161 tz3 rfl rfl rfl rfl (.one rfl PC.nil) rfl S fun b208 w S => ?_))))))
      obtain ⟨J209, hJ211, S, h210⟩ := S.freeze (r := (tInt' .i64)) (l := [n182]) 0 rfl ⟨[.int .i64 n182], _, rfl, rfl, rfl⟩ rfl rfl
      have h28 := h28.mono hJ211
      have h187 := h187.mono hJ211
      have h205 := h205.mono hJ211
      have hL30 := hL30.trans hJ211
      obtain ⟨l212, h214, H⟩ := obx H
      refine g rfl (o_appD (r := (tInt' .i64)) tsl161 rfl tz3 rfl rfl S 4 rfl rfl h28 h210 h214 fun v213 w J216 hJ217 S h215 => ?_)
      have h187 := h187.mono hJ217
      have h205 := h205.mono hJ217
      have hL30 := hL30.trans hJ217
      refine u rfl (x_fa tf163_3 rfl) <| g rfl (o_st tone161 S 6 rfl rfl rfl h215.one fun w S => FW.anew [(0, pt bx0), (3, pt b1), (4, .int .i64 n16)] ⟨rfl, rfl, rfl, trivial⟩ fun σ => rg (mv (.int .i64 n16) rfl (u rfl (x_bin rfl rfl rfl) (mv (.int .i64 (i64 (n16 + 1))) rfl ⟨q29, Nat.le_refl _, (i64 (n16 + 1)), s183, n184, l185, true, l202, l212, v186, v203, v213, J216, H, (Nat.le_of_succ_le hq47), ⟨rfl, rfl, rfl, trivial⟩, hL30, (S.sel 7 [4, 5, 2, 3, 6] rfl), h187, h205, h215⟩))))
     rw [if_neg cc197] at H
     refine gu rfl rfl rfl (vaF cc197) (x_movV (v := .int .i64 y173.1) rfl) <| gu rfl rfl rfl (vaF cc197) (x_movV (v := .int .i64 n182) rfl) <| gu rfl rfl rfl (vaF cc197) (x_bin rfl rfl rfl) <| u rfl (x_pickFV (v := .bool (decide (y173.1 > n182))) rfl (vaF cc197) rfl) <| u rfl (x_nk rfl) <| u rfl (x_fa tf135_3 rfl) <| g rfl (o_st tone4 S 0 rfl rfl rfl rfl fun w S => sq (FW.anew [(0, pt bx0), (3, pt b1), (4, .int .i64 n16), (6, .int .i64 y173.1), (7, .int .i64 n182)] ⟨rfl, rfl, rfl, rfl, rfl, trivial⟩ fun σ => rg (u rfl (x_fa tf163_2 rfl) (u rfl (x_ld tsc161 rfl (S.load 4 rfl 2 rfl)) (mv (.int .i64 y173.1) rfl (g rfl (o_bsl tsl161 tz3 rfl rfl rfl rfl (.one rfl PC.nil) rfl S fun b218 w S => ?_)))))))
     obtain ⟨J219, hJ221, S, h220⟩ := S.freeze (r := (tInt' .i64)) (l := [y173.1]) 0 rfl ⟨[.int .i64 y173.1], _, rfl, rfl, rfl⟩ rfl rfl
     have h25 := h25.mono hJ221
     have h187 := h187.mono hJ221
     have h28 := h28.mono hJ221
     have hL30 := hL30.trans hJ221
     obtain ⟨l222, h224, H⟩ := obx H
     refine g rfl (o_appD (r := (tInt' .i64)) tsl161 rfl tz3 rfl rfl S 4 rfl rfl h25 h220 h224 fun v223 w J226 hJ227 S h225 => ?_)
     have h187 := h187.mono hJ227
     have h28 := h28.mono hJ227
     have hL30 := hL30.trans hJ227
     refine u rfl (x_fa tf163_2 rfl) <| g rfl (o_st tone161 S 5 rfl rfl rfl h225.one fun w S => FW.anew [(0, pt bx0), (3, pt b1), (4, .int .i64 n16), (7, .int .i64 n182)] ⟨rfl, rfl, rfl, rfl, trivial⟩ fun σ => rg (u rfl (x_fa tf163_3 rfl) (u rfl (x_ld tsc161 rfl (S.load 5 rfl 3 rfl)) (mv (.int .i64 n182) rfl (g rfl (o_bsl tsl161 tz3 rfl rfl rfl rfl (.one rfl PC.nil) rfl S fun b228 w S => ?_))))))
     obtain ⟨J229, hJ231, S, h230⟩ := S.freeze (r := (tInt' .i64)) (l := [n182]) 0 rfl ⟨[.int .i64 n182], _, rfl, rfl, rfl⟩ rfl rfl
     have h28 := h28.mono hJ231
     have h187 := h187.mono hJ231
     have h225 := h225.mono hJ231
     have hL30 := hL30.trans hJ231
     obtain ⟨l232, h234, H⟩ := obx H
     refine g rfl (o_appD (r := (tInt' .i64)) tsl161 rfl tz3 rfl rfl S 4 rfl rfl h28 h230 h234 fun v233 w J236 hJ237 S h235 => ?_)
     have h187 := h187.mono hJ237
     have h225 := h225.mono hJ237
     have hL30 := hL30.trans hJ237
     refine u rfl (x_fa tf163_3 rfl) <| g rfl (o_st tone161 S 6 rfl rfl rfl h235.one fun w S => FW.anew [(0, pt bx0), (3, pt b1), (4, .int .i64 n16)] ⟨rfl, rfl, rfl, trivial⟩ fun σ => rg (mv (.int .i64 n16) rfl (u rfl (x_bin rfl rfl rfl) (mv (.int .i64 (i64 (n16 + 1))) rfl ⟨q29, Nat.le_refl _, (i64 (n16 + 1)), s183, n184, l185, (decide (y173.1 > n182)), l222, l232, v186, v223, v233, J236, H, (Nat.le_of_succ_le hq47), ⟨rfl, rfl, rfl, trivial⟩, hL30, (S.sel 7 [4, 5, 2, 3, 6] rfl), h187, h225, h235⟩))))
    rw [if_neg cc178] at H
    refine AQ.skip 11 rfl (by kernel_rfl) (by kernel_rfl) (by kernel_rfl) rfl rfl (deF cc178) hO <| AQ.skip 12 rfl (by kernel_rfl) (by kernel_rfl) (by kernel_rfl) rfl rfl (deF cc178) hO <| AQ.skip 13 rfl (by kernel_rfl) (by kernel_rfl) (by kernel_rfl) rfl rfl (deF cc178) hO <| AQ.skip 14 rfl (by kernel_rfl) (by kernel_rfl) (by kernel_rfl) rfl rfl (deF cc178) hO <| AQ.skip 15 rfl (by kernel_rfl) (by kernel_rfl) (by kernel_rfl) rfl rfl (deF cc178) hO <| AQ.skip 16 rfl (by kernel_rfl) (by kernel_rfl) (by kernel_rfl) rfl rfl (deF cc178) hO <| AQ.skip 17 rfl (by kernel_rfl) (by kernel_rfl) (by kernel_rfl) rfl rfl (deF cc178) hO <| AQ.skip 18 rfl (by kernel_rfl) (by kernel_rfl) (by kernel_rfl) rfl rfl (deF cc178) hO <| AQ.skip 19 rfl (by kernel_rfl) (by kernel_rfl) (by kernel_rfl) rfl rfl (deF cc178) hO <| AQ.skip 20 rfl (by kernel_rfl) (by kernel_rfl) (by kernel_rfl) rfl rfl (deF cc178) hO <| ap 21 rfl (by kernel_rfl) hO (fun w => x_pickFV (v := .bool false) rfl (deF cc178) rfl) <| AQ.done (by kernel_rfl) <| cF rfl rfl <| sk <| sq <| FW.anew [(0, pt bx0), (3, pt b1), (4, .int .i64 n16), (6, .int .i64 y173.1), (7, .int .i64 y173.1)] ⟨rfl, rfl, rfl, rfl, rfl, trivial⟩ fun σ => rg <| mv (pt bx0) rfl <| mv (pt bx0) rfl <| u rfl (x_nk rfl) <| u rfl (x_fa tf135_3 rfl) <| u rfl (x_ld tsc4 rfl (S.load 0 rfl 3 rfl)) <| mv (.bool y173.2.Bad) rfl ?_
    by_cases cc238 : y173.2.Bad = true
    ·rw [if_pos cc238] at H
     refine gn rfl rfl rfl cc238 <| gn rfl rfl rfl cc238 <| gn rfl rfl rfl cc238 <| u rfl (x_pickTV (v := .bool true) rfl cc238 rfl) <| u rfl (x_nk rfl) <| u rfl (x_fa tf135_3 rfl) <| g rfl (o_st tone4 S 0 rfl rfl rfl rfl fun w S => sq (FW.anew [(0, pt bx0), (3, pt b1), (4, .int .i64 n16), (6, .int .i64 y173.1), (7, .int .i64 y173.1)] ⟨rfl, rfl, rfl, rfl, rfl, trivial⟩ fun σ => rg (u rfl (x_fa tf163_2 rfl) (u rfl (x_ld tsc161 rfl (S.load 4 rfl 2 rfl)) (mv (.int .i64 y173.1) rfl (g rfl (o_bsl tsl161 tz3 rfl rfl rfl rfl (.one rfl PC.nil) rfl S fun b239 w S => ?_)))))))
     obtain ⟨J240, hJ242, S, h241⟩ := S.freeze (r := (tInt' .i64)) (l := [y173.1]) 0 rfl ⟨[.int .i64 y173.1], _, rfl, rfl, rfl⟩ rfl rfl
     have h25 := h25.mono hJ242
     have y173_1h2 := y173_1h2.mono hJ242
     have h28 := h28.mono hJ242
     have hL30 := hL30.trans hJ242
     obtain ⟨l243, h245, H⟩ := obx H
     refine g rfl (o_appD (r := (tInt' .i64)) tsl161 rfl tz3 rfl rfl S 4 rfl rfl h25 h241 h245 fun v244 w J247 hJ248 S h246 => ?_)
     have y173_1h2 := y173_1h2.mono hJ248
     have h28 := h28.mono hJ248
     have hL30 := hL30.trans hJ248
     refine u rfl (x_fa tf163_2 rfl) <| g rfl (o_st tone161 S 5 rfl rfl rfl h246.one fun w S => FW.anew [(0, pt bx0), (3, pt b1), (4, .int .i64 n16), (7, .int .i64 y173.1)] ⟨rfl, rfl, rfl, rfl, trivial⟩ fun σ => rg (u rfl (x_fa tf163_3 rfl) (u rfl (x_ld tsc161 rfl (S.load 5 rfl 3 rfl)) (mv (.int .i64 y173.1) rfl (g rfl (o_bsl tsl161 tz3 rfl rfl rfl rfl (.one rfl PC.nil) rfl S fun b249 w S => ?_))))))
     obtain ⟨J250, hJ252, S, h251⟩ := S.freeze (r := (tInt' .i64)) (l := [y173.1]) 0 rfl ⟨[.int .i64 y173.1], _, rfl, rfl, rfl⟩ rfl rfl
     have h28 := h28.mono hJ252
     have y173_1h2 := y173_1h2.mono hJ252
     have h246 := h246.mono hJ252
     have hL30 := hL30.trans hJ252
     obtain ⟨l253, h255, H⟩ := obx H
     refine g rfl (o_appD (r := (tInt' .i64)) tsl161 rfl tz3 rfl rfl S 4 rfl rfl h28 h251 h255 fun v254 w J257 hJ258 S h256 => ?_)
     have y173_1h2 := y173_1h2.mono hJ258
     have h246 := h246.mono hJ258
     have hL30 := hL30.trans hJ258
     refine u rfl (x_fa tf163_3 rfl) <| g rfl (o_st tone161 S 6 rfl rfl rfl h256.one fun w S => FW.anew [(0, pt bx0), (3, pt b1), (4, .int .i64 n16)] ⟨rfl, rfl, rfl, trivial⟩ fun σ => rg (mv (.int .i64 n16) rfl (u rfl (x_bin rfl rfl rfl) (mv (.int .i64 (i64 (n16 + 1))) rfl ⟨q29, Nat.le_refl _, (i64 (n16 + 1)), y173.2.S, y173.2.At, y173.2.N, true, l243, l253, y173_1v2, v244, v254, J257, H, (Nat.le_of_succ_le hq47), ⟨rfl, rfl, rfl, trivial⟩, hL30, (S.sel 7 [4, 5, 2, 3, 6] rfl), y173_1h2, h246, h256⟩))))
    rw [if_neg cc238] at H
    refine gu rfl rfl rfl (vaF cc238) (x_movV (v := .int .i64 y173.1) rfl) <| gu rfl rfl rfl (vaF cc238) (x_movV (v := .int .i64 y173.1) rfl) <| gu rfl rfl rfl (vaF cc238) (x_bin rfl rfl rfl) <| u rfl (x_pickFV (v := .bool (decide (y173.1 > y173.1))) rfl (vaF cc238) rfl) <| u rfl (x_nk rfl) <| u rfl (x_fa tf135_3 rfl) <| g rfl (o_st tone4 S 0 rfl rfl rfl rfl fun w S => sq (FW.anew [(0, pt bx0), (3, pt b1), (4, .int .i64 n16), (6, .int .i64 y173.1), (7, .int .i64 y173.1)] ⟨rfl, rfl, rfl, rfl, rfl, trivial⟩ fun σ => rg (u rfl (x_fa tf163_2 rfl) (u rfl (x_ld tsc161 rfl (S.load 4 rfl 2 rfl)) (mv (.int .i64 y173.1) rfl (g rfl (o_bsl tsl161 tz3 rfl rfl rfl rfl (.one rfl PC.nil) rfl S fun b259 w S => ?_)))))))
    obtain ⟨J260, hJ262, S, h261⟩ := S.freeze (r := (tInt' .i64)) (l := [y173.1]) 0 rfl ⟨[.int .i64 y173.1], _, rfl, rfl, rfl⟩ rfl rfl
    have h25 := h25.mono hJ262
    have y173_1h2 := y173_1h2.mono hJ262
    have h28 := h28.mono hJ262
    have hL30 := hL30.trans hJ262
    obtain ⟨l263, h265, H⟩ := obx H
    refine g rfl (o_appD (r := (tInt' .i64)) tsl161 rfl tz3 rfl rfl S 4 rfl rfl h25 h261 h265 fun v264 w J267 hJ268 S h266 => ?_)
    have y173_1h2 := y173_1h2.mono hJ268
    have h28 := h28.mono hJ268
    have hL30 := hL30.trans hJ268
    refine u rfl (x_fa tf163_2 rfl) <| g rfl (o_st tone161 S 5 rfl rfl rfl h266.one fun w S => FW.anew [(0, pt bx0), (3, pt b1), (4, .int .i64 n16), (7, .int .i64 y173.1)] ⟨rfl, rfl, rfl, rfl, trivial⟩ fun σ => rg (u rfl (x_fa tf163_3 rfl) (u rfl (x_ld tsc161 rfl (S.load 5 rfl 3 rfl)) (mv (.int .i64 y173.1) rfl (g rfl (o_bsl tsl161 tz3 rfl rfl rfl rfl (.one rfl PC.nil) rfl S fun b269 w S => ?_))))))
    obtain ⟨J270, hJ272, S, h271⟩ := S.freeze (r := (tInt' .i64)) (l := [y173.1]) 0 rfl ⟨[.int .i64 y173.1], _, rfl, rfl, rfl⟩ rfl rfl
    have h28 := h28.mono hJ272
    have y173_1h2 := y173_1h2.mono hJ272
    have h266 := h266.mono hJ272
    have hL30 := hL30.trans hJ272
    obtain ⟨l273, h275, H⟩ := obx H
    refine g rfl (o_appD (r := (tInt' .i64)) tsl161 rfl tz3 rfl rfl S 4 rfl rfl h28 h271 h275 fun v274 w J277 hJ278 S h276 => ?_)
    have y173_1h2 := y173_1h2.mono hJ278
    have h266 := h266.mono hJ278
    have hL30 := hL30.trans hJ278
    refine u rfl (x_fa tf163_3 rfl) <| g rfl (o_st tone161 S 6 rfl rfl rfl h276.one fun w S => FW.anew [(0, pt bx0), (3, pt b1), (4, .int .i64 n16)] ⟨rfl, rfl, rfl, trivial⟩ fun σ => rg (mv (.int .i64 n16) rfl (u rfl (x_bin rfl rfl rfl) (mv (.int .i64 (i64 (n16 + 1))) rfl ⟨q29, Nat.le_refl _, (i64 (n16 + 1)), y173.2.S, y173.2.At, y173.2.N, (decide (y173.1 > y173.1)), l263, l273, y173_1v2, v264, v274, J277, H, (Nat.le_of_succ_le hq47), ⟨rfl, rfl, rfl, trivial⟩, hL30, (S.sel 7 [4, 5, 2, 3, 6] rfl), y173_1h2, h266, h276⟩))))
   rw [if_neg cc172] at H
   refine cF rfl (vaF cc172) <| rg <| mv (pt bx0) rfl <| u rfl (x_nk rfl) <| u rfl (x_fa tf135_3 rfl) <| g rfl (o_st tone4 S 0 rfl rfl rfl rfl fun w S => FW.anew [(0, pt bx0), (3, pt b1), (4, .int .i64 n16)] ⟨rfl, rfl, rfl, trivial⟩ fun σ => rg (mv (.int .i64 n16) rfl (u rfl (x_bin rfl rfl rfl) (mv (.int .i64 (i64 (n16 + 1))) rfl ⟨q29, Nat.le_refl _, (i64 (n16 + 1)), y50.2.S, y50.2.At, y50.2.N, true, l23, l26, y50_1v2, v24, v27, J52, H, (Nat.le_of_succ_le hq47), ⟨rfl, rfl, rfl, trivial⟩, hL30, (S.sel 5 [2, 3, 0, 1, 4] rfl), y50_1h2, h25, h28⟩))))
  rw [if_neg cc48] at H
  refine gn rfl rfl rfl (deF cc48) <| gn rfl rfl rfl (deF cc48) <| gn rfl rfl rfl (deF cc48) <| gn rfl rfl rfl (deF cc48) <| gn rfl rfl rfl (deF cc48) <| u rfl (x_pickFV (v := .bool false) rfl (deF cc48) rfl) <| cF rfl rfl <| ex ⟨s17, n18, l19, b22, l23, l26, v20, v24, v27, J15, (si H), ⟨rfl, trivial⟩, hL30, S, h21, h25, h28⟩
 rintro σ w ⟨s35, n36, l37, b40, l41, l44, v38, v42, v45, J34, ho, hσ, hL30, S, h39, h43, h46⟩
 subst ho
 have H := HO32
 try dsimp only at H
 have hI := hI.trans hL30
 rw [hσ.eq]
 refine sr <| mv (pt bx0) rfl <| u rfl (x_nk rfl) <| u rfl (x_fa tf135_3 rfl) <| g rfl (o_st tone4 S 2 rfl rfl rfl rfl fun w S => sq (rg (mv (.int .i64 0) rfl (rt ?_))))
 obtain rfl := si H
 exact ⟨_, ⟨_, rfl, rfl⟩, ⟨v38, J34, hI, rfl, h39, (S.sel 5 [2, 3] rfl)⟩⟩
end Go.Proofs.YtafnenafbognkaaGreatDoor
