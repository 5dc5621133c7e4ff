/-
  PRINTED FUNCTIONS 1: regex_Expr_add, regex_step_takes, regex_Expr_Match, strings_Join, octet_Text, regex_members, regex_texts, regex_Expr_Text, regex_Expr_Size, octet_value, octet_Int, regex_signs_1.
-/
import Derived.Test.YtkkflfmonidepaaDoorT
namespace Go.Proofs.YtkkflfmonidepaaDoor
open Sp
set_option maxRecDepth 100000
set_option maxHeartbeats 4000000
mutual
def regex_Expr_add.f : Nat → (Option T_regex_Expr) → (List Bool) → Int → Int → Int → Option (List Bool)
  | 0, _, _, _, _, _ => none
  | k + 1, x0, x1, x2, x3, x4 => ((lat x1 x2).bind fun y1 => (if y1 = true then (some x1) else ((lat x1 x2).bind fun y10 => ((x0).bind fun y20 => ((lat y20.prog x2).bind fun y28 => (if y28.op = 1 then ((regex_Expr_add.f k x0 (x1.set x2.toNat true) y28.to_.1 x3 x4).bind fun y37 => ((regex_Expr_add.f k x0 y37 y28.to_.2 x3 x4).bind fun y41 => (some y41))) else (if y28.op = 2 then (if x3 = 0 then ((regex_Expr_add.f k x0 (x1.set x2.toNat true) (i64 (x2 + 1)) x3 x4).bind fun y47 => (some y47)) else (some (x1.set x2.toNat true))) else (if y28.op = 3 then (if x3 = x4 then ((regex_Expr_add.f k x0 (x1.set x2.toNat true) (i64 (x2 + 1)) x3 x4).bind fun y53 => (some y53)) else (some (x1.set x2.toNat true))) else (some (x1.set x2.toNat true))))))))))
end
abbrev regex_Expr_add.C (k : Nat) : Prop := ∀ {x0 : (Option T_regex_Expr)} {x1 : (List Bool)} {x2 : Int} {x3 : Int} {x4 : Int} {vx0 : Value} {vx1 : Value} {cx1 : List Value} {F : List It} {I : IMem} {w : World} {r : (List Bool)}, Glob I → Own I w (.av vx1 4 1 cx1 :: F) → PtR R_regex_Expr I vx0 x0 → Flat tBool I cx1 x1 → regex_Expr_add.f k x0 x1 x2 x3 x4 = some r →
    Calls Tryd.prog 22 #[vx0, vx1, .int .i64 x2, .int .i64 x3, .int .i64 x4] w fun e w' => ∃ v, e = .returned v ∧ ∃ (cy_0 : List Value) (J : IMem), I.le J ∧ v = .tuple #[] ∧ Flat tBool J cy_0 r ∧ Own J w' (.av vx1 4 1 cy_0 :: F)
theorem regex_Expr_add.step (k : Nat) (ih_regex_Expr_add : ∀ m, m ≤ k → regex_Expr_add.C m) : regex_Expr_add.C (k + 1) := by
  intro x0 x1 x2 x3 x4 vx0 vx1 cx1 F I w r hG S hx0 hx1 H
  have hI := IMem.le.refl I
  rw [regex_Expr_add.f] at H
  refine Calls.ofFW (args := [vx0, vx1, .int .i64 x2, .int .i64 x3, .int .i64 x4]) Tryd.func22 rfl rfl ?_
  refine FW.seq ?_
  refine FW.seq ?_
  refine FW.region ?_
  refine U rfl rfl (V (x_movV (v := vx1) rfl) ?_)
  refine U rfl rfl (V (x_movV (v := .int .i64 x2) rfl) ?_)
  obtain ⟨y1, h2, H⟩ := obx H
  refine U rfl rfl (o_iaV (r := tBool) tsl64 rfl rfl S 0 rfl hx1 rfl h2 fun b3 cs4 cc5 hv6 hr7 hc8 => ?_)
  obtain rfl := hr7
  refine U rfl rfl (V (x_ld tsc4 rfl (S.loadV 0 rfl hv6 (hc8 0 _ rfl))) ?_)
  by_cases cc9 : y1 = true
  · rw [if_pos cc9] at H
    refine FW.condT rfl cc9 ?_
    refine FW.ret ?_
    obtain rfl := Option.some.inj H
    exact ⟨_, rfl, ⟨cx1, I, hI, rfl, hx1, S⟩⟩
  · rw [if_neg cc9] at H
    refine FW.condF rfl (vaF cc9) ?_
    refine FW.skip ?_
    refine FW.seq ?_
    refine FW.region ?_
    refine U rfl rfl (V (x_movV (v := vx1) rfl) ?_)
    refine U rfl rfl (V (x_movV (v := .int .i64 x2) rfl) ?_)
    obtain ⟨y10, h11, H⟩ := obx H
    refine U rfl rfl (o_iaV (r := tBool) tsl64 rfl rfl S 0 rfl hx1 rfl h11 fun b12 cs13 cc14 hv15 hr16 hc17 => ?_)
    obtain rfl := hr16
    refine U rfl rfl (o_stV (r := tBool) (f := 0) (y' := true) tone4 rfl S 0 rfl hv15 hx1 h11 rfl hc17 rfl rfl rfl rfl rfl fun w a18 S h19 => ?_)
    refine FW.seq ?_
    refine FW.anew [(0, vx0), (1, vx1), (2, .int .i64 x2), (3, .int .i64 x3), (4, .int .i64 x4)] ⟨rfl, rfl, rfl, rfl, rfl, trivial⟩ fun σ => ?_
    refine FW.region ?_
    refine U rfl rfl (V (x_movV (v := vx0) rfl) ?_)
    obtain ⟨y20, hy21, H⟩ := obx H
    obtain ⟨b22, o23, cs24, hv25, hr26, hc27⟩ := hx0.some hy21
    obtain ⟨y20v1, y20v2, y20v4, rfl, y20h1, y20h2, y20h4⟩ := hr26
    refine U rfl rfl (V (x_nk hv25) ?_)
    refine U rfl rfl (V (x_fa tf55_1 rfl) ?_)
    refine U rfl rfl (V (x_ld tsc53 rfl (S.cell _ _ _ (hc27 4 _ rfl))) ?_)
    refine U rfl rfl (V (x_movV (v := .int .i64 x2) rfl) ?_)
    obtain ⟨y28, h29, H⟩ := obx H
    refine U rfl rfl (o_ia (r := R_regex_step) tsl53 rfl rfl y20h4 rfl h29 fun b30 o31 cs32 hr33 hc34 => ?_)
    obtain ⟨y28v1, rfl, y28h1⟩ := hr33
    refine U rfl rfl (V (x_ldA tag59 rfl (S.loadI hc34) rfl) ?_)
    refine U rfl rfl (o_all tz59 S fun b35 w S => ?_)
    refine U rfl rfl (o_stA tag59 S 0 rfl rfl rfl rfl (c1 rfl (c1 y28h1.one (c1 rfl (c1 rfl (c1 rfl (c1 rfl c0)))))) rfl fun w S => ?_)
    refine FW.seq ?_
    refine FW.anew [(0, vx0), (1, vx1), (2, .int .i64 x2), (3, .int .i64 x3), (4, .int .i64 x4), (10, .pointer (some ⟨b35, 0, none⟩))] ⟨rfl, rfl, rfl, rfl, rfl, rfl, trivial⟩ fun σ => ?_
    refine FW.region ?_
    refine U rfl rfl (V (x_fa tf59_0 rfl) ?_)
    refine U rfl rfl (V (x_ld tsc3 rfl (S.load 0 rfl 0 rfl)) ?_)
    refine FW.block ?_
    refine FW.seq ?_
    refine FW.region ?_
    refine U rfl rfl (V (x_bin rfl rfl rfl) ?_)
    refine U rfl rfl (V (x_asgV (v := .bool (y28.op == 1)) rfl) ?_)
    by_cases cc36 : y28.op = 1
    · rw [if_pos cc36] at H
      refine FW.condT rfl (eqT cc36) ?_
      refine FW.seq ?_
      refine FW.region ?_
      refine U rfl rfl (V (x_movV (v := vx0) rfl) ?_)
      refine U rfl rfl (V (x_movV (v := vx1) rfl) ?_)
      refine U rfl rfl (V (x_fa tf59_4 rfl) ?_)
      refine U rfl rfl (V (x_iaA tar57 rfl rfl (by decide) (by decide)) ?_)
      refine U rfl rfl (V (x_ld tsc3 rfl (S.load 0 rfl 4 rfl)) ?_)
      refine U rfl rfl (V (x_movV (v := .int .i64 x3) rfl) ?_)
      refine U rfl rfl (V (x_movV (v := .int .i64 x4) rfl) ?_)
      obtain ⟨y37, hy38, H⟩ := obx H
      refine U rfl rfl (cl fb22 (@ih_regex_Expr_add k (by omega) x0 (x1.set x2.toNat true) y28.to_.1 x3 x4 _ _ _ _ _ _ _ hG (S.sel 2 [1, 0] rfl) hx0 h19 hy38) rfl ?_)
      rintro _ w ⟨cy37_0, J39, hJ40, rfl, hy37_0, S⟩
      have hx0 := hx0.mono hJ40
      have hc27 := hc27.mono hJ40
      have y20h1 := y20h1.mono hJ40
      have y20h2 := y20h2.mono hJ40
      have y20h4 := y20h4.mono hJ40
      have y28h1 := y28h1.mono hJ40
      have hI := hI.trans hJ40
      have hG := hG.mono hJ40
      refine FW.anew [(0, vx0), (1, vx1), (3, .int .i64 x3), (4, .int .i64 x4), (10, .pointer (some ⟨b35, 0, none⟩))] ⟨rfl, rfl, rfl, rfl, rfl, trivial⟩ fun σ => ?_
      refine FW.region ?_
      refine U rfl rfl (V (x_movV (v := vx0) rfl) ?_)
      refine U rfl rfl (V (x_movV (v := vx1) rfl) ?_)
      refine U rfl rfl (V (x_fa tf59_4 rfl) ?_)
      refine U rfl rfl (V (x_iaA tar57 rfl rfl (by decide) (by decide)) ?_)
      refine U rfl rfl (V (x_ld tsc3 rfl (S.load 1 rfl 5 rfl)) ?_)
      refine U rfl rfl (V (x_movV (v := .int .i64 x3) rfl) ?_)
      refine U rfl rfl (V (x_movV (v := .int .i64 x4) rfl) ?_)
      obtain ⟨y41, hy42, H⟩ := obx H
      refine U rfl rfl (cl fb22 (@ih_regex_Expr_add k (by omega) x0 y37 y28.to_.2 x3 x4 _ _ _ _ _ _ _ hG S hx0 hy37_0 hy42) rfl ?_)
      rintro _ w ⟨cy41_0, J43, hJ44, rfl, hy41_0, S⟩
      have hx0 := hx0.mono hJ44
      have hc27 := hc27.mono hJ44
      have y20h1 := y20h1.mono hJ44
      have y20h2 := y20h2.mono hJ44
      have y20h4 := y20h4.mono hJ44
      have y28h1 := y28h1.mono hJ44
      have hI := hI.trans hJ44
      have hG := hG.mono hJ44
      obtain rfl := Option.some.inj H
      exact ⟨_, rfl, ⟨cy41_0, J43, hI, rfl, hy41_0, (S.sel 2 [0] rfl)⟩⟩
    · rw [if_neg cc36] at H
      refine FW.condF rfl (eqF cc36) ?_
      refine FW.seq ?_
      refine FW.region ?_
      refine U rfl rfl (V (x_bin rfl rfl rfl) ?_)
      refine U rfl rfl (V (x_asgV (v := .bool (y28.op == 2)) rfl) ?_)
      by_cases cc45 : y28.op = 2
      · rw [if_pos cc45] at H
        refine FW.condT rfl (eqT cc45) ?_
        refine FW.seq ?_
        refine FW.region ?_
        refine U rfl rfl (V (x_movV (v := .int .i64 x3) rfl) ?_)
        refine U rfl rfl (V (x_bin rfl rfl rfl) ?_)
        by_cases cc46 : x3 = 0
        · rw [if_pos cc46] at H
          refine FW.condT rfl (eqT cc46) ?_
          refine FW.anew [(0, vx0), (1, vx1), (2, .int .i64 x2), (3, .int .i64 x3), (4, .int .i64 x4)] ⟨rfl, rfl, rfl, rfl, rfl, trivial⟩ fun σ => ?_
          refine FW.region ?_
          refine U rfl rfl (V (x_movV (v := vx0) rfl) ?_)
          refine U rfl rfl (V (x_movV (v := vx1) rfl) ?_)
          refine U rfl rfl (V (x_movV (v := .int .i64 x2) rfl) ?_)
          refine U rfl rfl (V (x_bin rfl rfl rfl) ?_)
          refine U rfl rfl (V (x_movV (v := .int .i64 x3) rfl) ?_)
          refine U rfl rfl (V (x_movV (v := .int .i64 x4) rfl) ?_)
          obtain ⟨y47, hy48, H⟩ := obx H
          refine U rfl rfl (cl fb22 (@ih_regex_Expr_add k (by omega) x0 (x1.set x2.toNat true) (i64 (x2 + 1)) x3 x4 _ _ _ _ _ _ _ hG (S.sel 2 [1, 0] rfl) hx0 h19 hy48) rfl ?_)
          rintro _ w ⟨cy47_0, J49, hJ50, rfl, hy47_0, S⟩
          have hx0 := hx0.mono hJ50
          have hc27 := hc27.mono hJ50
          have y20h1 := y20h1.mono hJ50
          have y20h2 := y20h2.mono hJ50
          have y20h4 := y20h4.mono hJ50
          have y28h1 := y28h1.mono hJ50
          have hI := hI.trans hJ50
          have hG := hG.mono hJ50
          obtain rfl := Option.some.inj H
          exact ⟨_, rfl, ⟨cy47_0, J49, hI, rfl, hy47_0, (S.sel 2 [0] rfl)⟩⟩
        · rw [if_neg cc46] at H
          refine FW.condF rfl (eqF cc46) ?_
          refine FW.skip ?_
          obtain rfl := Option.some.inj H
          exact ⟨_, rfl, ⟨a18, I, hI, rfl, h19, (S.sel 2 [1] rfl)⟩⟩
      · rw [if_neg cc45] at H
        refine FW.condF rfl (eqF cc45) ?_
        refine FW.seq ?_
        refine FW.region ?_
        refine U rfl rfl (V (x_bin rfl rfl rfl) ?_)
        refine U rfl rfl (V (x_asgV (v := .bool (y28.op == 3)) rfl) ?_)
        by_cases cc51 : y28.op = 3
        · rw [if_pos cc51] at H
          refine FW.condT rfl (eqT cc51) ?_
          refine FW.seq ?_
          refine FW.anew [(0, vx0), (1, vx1), (2, .int .i64 x2), (3, .int .i64 x3), (4, .int .i64 x4)] ⟨rfl, rfl, rfl, rfl, rfl, trivial⟩ fun σ => ?_
          refine FW.region ?_
          refine U rfl rfl (V (x_movV (v := .int .i64 x3) rfl) ?_)
          refine U rfl rfl (V (x_movV (v := .int .i64 x4) rfl) ?_)
          refine U rfl rfl (V (x_bin rfl rfl rfl) ?_)
          by_cases cc52 : x3 = x4
          · rw [if_pos cc52] at H
            refine FW.condT rfl (eqT cc52) ?_
            refine FW.region ?_
            refine U rfl rfl (V (x_movV (v := vx0) rfl) ?_)
            refine U rfl rfl (V (x_movV (v := vx1) rfl) ?_)
            refine U rfl rfl (V (x_movV (v := .int .i64 x2) rfl) ?_)
            refine U rfl rfl (V (x_bin rfl rfl rfl) ?_)
            refine U rfl rfl (V (x_movV (v := .int .i64 x3) rfl) ?_)
            refine U rfl rfl (V (x_movV (v := .int .i64 x4) rfl) ?_)
            obtain ⟨y53, hy54, H⟩ := obx H
            refine U rfl rfl (cl fb22 (@ih_regex_Expr_add k (by omega) x0 (x1.set x2.toNat true) (i64 (x2 + 1)) x3 x4 _ _ _ _ _ _ _ hG (S.sel 2 [1, 0] rfl) hx0 h19 hy54) rfl ?_)
            rintro _ w ⟨cy53_0, J55, hJ56, rfl, hy53_0, S⟩
            have hx0 := hx0.mono hJ56
            have hc27 := hc27.mono hJ56
            have y20h1 := y20h1.mono hJ56
            have y20h2 := y20h2.mono hJ56
            have y20h4 := y20h4.mono hJ56
            have y28h1 := y28h1.mono hJ56
            have hI := hI.trans hJ56
            have hG := hG.mono hJ56
            obtain rfl := Option.some.inj H
            exact ⟨_, rfl, ⟨cy53_0, J55, hI, rfl, hy53_0, (S.sel 2 [0] rfl)⟩⟩
          · rw [if_neg cc52] at H
            refine FW.condF rfl (eqF cc52) ?_
            refine FW.skip ?_
            obtain rfl := Option.some.inj H
            exact ⟨_, rfl, ⟨a18, I, hI, rfl, h19, (S.sel 2 [1] rfl)⟩⟩
        · rw [if_neg cc51] at H
          refine FW.condF rfl (eqF cc51) ?_
          refine FW.skip ?_
          obtain rfl := Option.some.inj H
          exact ⟨_, rfl, ⟨a18, I, hI, rfl, h19, (S.sel 2 [1] rfl)⟩⟩
theorem regex_Expr_add.zero : regex_Expr_add.C 0 := by
  intro _ _ _ _ _ _ _ _ _ _ _ _ _ _ _ _ H; cases H
theorem regex_Expr_add.grp : ∀ k m, m ≤ k → regex_Expr_add.C m
  | 0, m, h => by
    obtain rfl : m = 0 := by omega
    exact regex_Expr_add.zero
  | k + 1, 0, _ => regex_Expr_add.zero
  | k + 1, m + 1, h => regex_Expr_add.step m (fun i hi => (regex_Expr_add.grp k i (by omega)))
theorem regex_Expr_add.ok (k : Nat) : regex_Expr_add.C k := (regex_Expr_add.grp k k (Nat.le_refl k))

def regex_step_takes.l0 : Nat → T_regex_step → Int → Int → Option (Sum Bool Unit)
  | 0, _, _, _ => none
  | k + 1, x0, x1, n4 => (if n4 < (x0.spans.length : Int) then ((lat x0.spans n4).bind fun y13 => (if x1 ≥ y13.from_ then (if x1 ≤ y13.to_ then (some (.inl (!x0.not))) else (regex_step_takes.l0 k x0 x1 (i64 (n4 + 1)))) else (regex_step_takes.l0 k x0 x1 (i64 (n4 + 1))))) else (some (.inr ())))
def regex_step_takes.f (k : Nat) (x0 : T_regex_step) (x1 : Int) : Option Bool := (if x0.all = true then (some true) else (((regex_step_takes.l0 k x0 x1 0) : Option (Sum Bool Unit)).bind fun o => match o with | .inl r => some r | .inr _ => (some x0.not)))
abbrev regex_step_takes.C (k : Nat) : Prop := ∀ {x0 : T_regex_step} {x1 : Int} {x0v1 : Value} {F : List It} {I : IMem} {w : World} {r : Bool}, Glob I → Own I w (F) → SlR R_regex_span I x0v1 x0.spans → regex_step_takes.f k x0 x1 = some r →
    Calls Tryd.prog 23 #[.agg #[.int .i64 x0.op, x0v1, .bool x0.all, .bool x0.not, .int .i64 x0.to_.1, .int .i64 x0.to_.2], .int .u32 x1] w fun e w' => ∃ v, e = .returned v ∧ v = .bool r ∧ Own I w' (F)
theorem regex_step_takes.ok (k : Nat) : regex_step_takes.C k := by
  intro x0 x1 x0v1 F I w r hG S x0h1 H
  have hI := IMem.le.refl I
  rw [regex_step_takes.f] at H
  refine Calls.ofFW (args := [.agg #[.int .i64 x0.op, x0v1, .bool x0.all, .bool x0.not, .int .i64 x0.to_.1, .int .i64 x0.to_.2], .int .u32 x1]) Tryd.func23 rfl rfl ?_
  refine FW.seq ?_
  refine FW.region ?_
  refine U rfl rfl (o_boxA rfl S fun b1 w S => ?_)
  refine U rfl rfl (V (x_asgV (v := .bool false) rfl) ?_)
  refine FW.seq ?_
  refine FW.seq ?_
  refine FW.region ?_
  refine U rfl rfl (V (x_fa tf59_2 rfl) ?_)
  refine U rfl rfl (V (x_ld tsc4 rfl (S.load 0 rfl 2 rfl)) ?_)
  by_cases cc2 : x0.all = true
  · rw [if_pos cc2] at H
    refine FW.condT rfl cc2 ?_
    refine FW.seq ?_
    refine FW.region ?_
    refine U rfl rfl (V (x_asgV (v := .bool true) rfl) ?_)
    refine FW.ret ?_
    obtain rfl := Option.some.inj H
    exact ⟨_, ⟨_, rfl, rfl⟩, ⟨rfl, ((S.sel 1 [] rfl).weaken hI)⟩⟩
  · rw [if_neg cc2] at H
    refine FW.condF rfl (vaF cc2) ?_
    refine FW.skip ?_
    refine FW.seq ?_
    refine FW.seq ?_
    refine FW.region ?_
    refine U rfl rfl (V (x_fa tf59_1 rfl) ?_)
    refine U rfl rfl (V (x_ld tsc46 rfl (S.load 0 rfl 1 rfl)) ?_)
    refine U rfl rfl (V (x_lenD (r := R_regex_span) tsl46 x0h1) ?_)
    refine U rfl rfl (V (x_movV (v := .int .i64 0) rfl) ?_)
    refine FW.block ?_
    obtain ⟨o7, hl9, HO8⟩ := obx H
    refine FW.cutX 0 (fun σ w => ∃ (J10 : IMem), (.inr ()) = o7 ∧ Has σ [(2, .pointer (some ⟨b1, 0, none⟩))] ∧ I.le J10 ∧ Own J10 w (.bk b1 59 [.int .i64 x0.op, x0v1, .bool x0.all, .bool x0.not, .int .i64 x0.to_.1, .int .i64 x0.to_.2] :: F)) ?_ ?_
    ·
      refine FW.loop k (FL.ind (fun q σ w => ∃ (n4 : Int) (J3 : IMem), regex_step_takes.l0 q x0 x1 n4 = some o7 ∧ q ≤ k ∧ Has σ [(1, .int .u32 x1), (2, .pointer (some ⟨b1, 0, none⟩)), (10, x0v1), (11, .int .i64 (x0.spans.length : Int)), (12, .int .i64 n4)] ∧ I.le J3 ∧ Own J3 w (.bk b1 59 [.int .i64 x0.op, x0v1, .bool x0.all, .bool x0.not, .int .i64 x0.to_.1, .int .i64 x0.to_.2] :: F)) ?_ ?_ k k _ _ (Nat.le_refl _) ⟨0, I, hl9, Nat.le_refl _, ⟨rfl, rfl, rfl, rfl, rfl, trivial⟩, (IMem.le.refl _), S⟩)
      · rintro σ w ⟨n4, J3, H, _⟩; cases H
      · rintro q5 σ w ⟨n4, J3, H, hq11, hσ, hL6, S⟩
        have x0h1 := x0h1.mono hL6
        have hI := hI.trans hL6
        have hG := hG.mono hL6
        rw [hσ.eq]
        rw [regex_step_takes.l0] at H
        refine FW.seq ?_
        refine FW.region ?_
        refine U rfl rfl (V (x_bin rfl rfl rfl) ?_)
        refine FW.seq ?_
        by_cases cc12 : n4 < (x0.spans.length : Int)
        · rw [if_pos cc12] at H
          refine FW.condT rfl (deT cc12) ?_
          refine FW.skip ?_
          refine FW.seq ?_
          refine FW.block ?_
          refine FW.seq ?_
          refine FW.region ?_
          obtain ⟨y13, h14, H⟩ := obx H
          refine U rfl rfl (o_ia (r := R_regex_span) tsl46 rfl rfl x0h1 rfl h14 fun b15 o16 cs17 hr18 hc19 => ?_)
          obtain rfl := hr18
          refine U rfl rfl (V (x_ldA tag80 rfl (S.loadI hc19) rfl) ?_)
          refine U rfl rfl (o_all tz80 S fun b20 w S => ?_)
          refine U rfl rfl (o_stA tag80 S 0 rfl rfl rfl rfl (c1 rfl (c1 rfl c0)) rfl fun w S => ?_)
          refine FW.seq ?_
          refine FW.region ?_
          refine U rfl rfl (V (x_movV (v := .int .u32 x1) rfl) ?_)
          refine U rfl rfl (V (x_fa tf80_0 rfl) ?_)
          refine U rfl rfl (V (x_ld tsc38 rfl (S.load 0 rfl 0 rfl)) ?_)
          refine U rfl rfl (V (x_bin rfl rfl rfl) ?_)
          refine U rfl rfl (V (x_movV (v := .bool (decide (x1 ≥ y13.from_))) rfl) ?_)
          by_cases cc21 : x1 ≥ y13.from_
          · rw [if_pos cc21] at H
            refine OK.gt rfl rfl rfl (deT cc21) (V (x_movV (v := .int .u32 x1) rfl) ?_)
            refine OK.gt rfl rfl rfl (deT cc21) (V (x_fa tf80_1 rfl) ?_)
            refine OK.gt rfl rfl rfl (deT cc21) (V (x_ld tsc38 rfl (S.load 0 rfl 1 rfl)) ?_)
            refine OK.gt rfl rfl rfl (deT cc21) (V (x_bin rfl rfl rfl) ?_)
            refine U rfl rfl (V (x_pickTV (v := .bool (decide (x1 ≤ y13.to_))) rfl (deT cc21) rfl) ?_)
            by_cases cc22 : x1 ≤ y13.to_
            · rw [if_pos cc22] at H
              refine FW.condT rfl (deT cc22) ?_
              refine FW.seq ?_
              refine FW.anew [(2, .pointer (some ⟨b1, 0, none⟩))] ⟨rfl, trivial⟩ fun σ => ?_
              refine FW.region ?_
              refine U rfl rfl (V (x_fa tf59_3 rfl) ?_)
              refine U rfl rfl (V (x_ld tsc4 rfl (S.load 1 rfl 3 rfl)) ?_)
              refine U rfl rfl (V (x_not' rfl) ?_)
              refine U rfl rfl (V (x_asgV (v := .bool (!x0.not)) rfl) ?_)
              refine FW.ret ?_
              obtain rfl := Option.some.inj H
              obtain rfl := Option.some.inj HO8
              exact ⟨_, ⟨_, rfl, rfl⟩, ⟨rfl, ((S.sel 2 [] rfl).weaken hI)⟩⟩
            · rw [if_neg cc22] at H
              refine FW.condF rfl (deF cc22) ?_
              refine FW.skip ?_
              refine FW.anew [(1, .int .u32 x1), (2, .pointer (some ⟨b1, 0, none⟩)), (10, x0v1), (11, .int .i64 (x0.spans.length : Int)), (12, .int .i64 n4)] ⟨rfl, rfl, rfl, rfl, rfl, trivial⟩ fun σ => ?_
              refine FW.region ?_
              refine U rfl rfl (V (x_bin rfl rfl rfl) ?_)
              refine U rfl rfl (V (x_movV (v := .int .i64 (i64 (n4 + 1))) rfl) ?_)
              exact ⟨q5, Nat.le_refl _, (i64 (n4 + 1)), J3, H, (Nat.le_of_succ_le hq11), ⟨rfl, rfl, rfl, rfl, rfl, trivial⟩, hL6, (S.sel 2 [1] rfl)⟩
          · rw [if_neg cc21] at H
            refine OK.gf rfl rfl rfl (deF cc21) ?_
            refine OK.gf rfl rfl rfl (deF cc21) ?_
            refine OK.gf rfl rfl rfl (deF cc21) ?_
            refine OK.gf rfl rfl rfl (deF cc21) ?_
            refine U rfl rfl (V (x_pickFV (v := .bool false) rfl (deF cc21) rfl) ?_)
            refine FW.condF rfl rfl ?_
            refine FW.skip ?_
            refine FW.anew [(1, .int .u32 x1), (2, .pointer (some ⟨b1, 0, none⟩)), (10, x0v1), (11, .int .i64 (x0.spans.length : Int)), (12, .int .i64 n4)] ⟨rfl, rfl, rfl, rfl, rfl, trivial⟩ fun σ => ?_
            refine FW.region ?_
            refine U rfl rfl (V (x_bin rfl rfl rfl) ?_)
            refine U rfl rfl (V (x_movV (v := .int .i64 (i64 (n4 + 1))) rfl) ?_)
            exact ⟨q5, Nat.le_refl _, (i64 (n4 + 1)), J3, H, (Nat.le_of_succ_le hq11), ⟨rfl, rfl, rfl, rfl, rfl, trivial⟩, hL6, (S.sel 2 [1] rfl)⟩
        · rw [if_neg cc12] at H
          refine FW.condF rfl (deF cc12) ?_
          refine FW.exit ?_
          exact ⟨J3, (Option.some.inj H), ⟨rfl, trivial⟩, hL6, S⟩
    · rintro σ w ⟨J10, ho, hσ, hL6, S⟩
      subst ho
      have H := HO8
      try dsimp only at H
      have x0h1 := x0h1.mono hL6
      have hI := hI.trans hL6
      have hG := hG.mono hL6
      rw [hσ.eq]
      refine FW.seq ?_
      refine FW.region ?_
      refine U rfl rfl (V (x_fa tf59_3 rfl) ?_)
      refine U rfl rfl (V (x_ld tsc4 rfl (S.load 0 rfl 3 rfl)) ?_)
      refine U rfl rfl (V (x_asgV (v := .bool x0.not) rfl) ?_)
      refine FW.ret ?_
      obtain rfl := Option.some.inj H
      exact ⟨_, ⟨_, rfl, rfl⟩, ⟨rfl, ((S.sel 1 [] rfl).weaken hI)⟩⟩

def regex_Expr_Match.l1 : Nat → (Option T_regex_Expr) → (List Int) → T_regex_Expr → Int → (List Bool) → (List Bool) → Int → Option (List Bool)
  | 0, _, _, _, _, _, _, _ => none
  | k + 1, x0, x1, y2, n23, y30, l67, n72 => (if n72 < (y30.length : Int) then ((lat y30 n72).bind fun y86 => (if y86 = true then ((lat y2.prog n72).bind fun y96 => (if y96.op = 0 then ((lat y2.prog n72).bind fun y104 => ((lat x1 n23).bind fun y111 => ((regex_step_takes.f k y104 y111).bind fun y118 => (if y118 = true then ((regex_Expr_add.f k x0 l67 (i64 (n72 + 1)) (i64 (n23 + 1)) (x1.length : Int)).bind fun y121 => (regex_Expr_Match.l1 k x0 x1 y2 n23 y30 y121 (i64 (n72 + 1)))) else (regex_Expr_Match.l1 k x0 x1 y2 n23 y30 l67 (i64 (n72 + 1))))))) else (regex_Expr_Match.l1 k x0 x1 y2 n23 y30 l67 (i64 (n72 + 1))))) else (regex_Expr_Match.l1 k x0 x1 y2 n23 y30 l67 (i64 (n72 + 1))))) else (some l67))
def regex_Expr_Match.l0 : Nat → (Option T_regex_Expr) → (List Int) → T_regex_Expr → (List Bool) → Int → Option (Sum Bool Unit)
  | 0, _, _, _, _, _ => none
  | k + 1, x0, x1, y2, l18, n23 => ((regex_Expr_add.f k x0 l18 0 n23 (x1.length : Int)).bind fun y30 => ((lat y30 (i64 ((y2.prog.length : Int) - 1))).bind fun y34 => (if y34 = true then ((lat y30 (i64 ((y2.prog.length : Int) - 1))).bind fun y43 => (some (.inl y43))) else (if n23 = (x1.length : Int) then ((lat y30 (i64 ((y2.prog.length : Int) - 1))).bind fun y52 => (some (.inl y52))) else ((made 1 false (y2.prog.length : Int)).bind fun l60 => ((regex_Expr_Match.l1 k x0 x1 y2 n23 y30 l60 0).bind fun l79 => (regex_Expr_Match.l0 k x0 x1 y2 l79 (i64 (n23 + 1)))))))))
def regex_Expr_Match.f (k : Nat) (x0 : (Option T_regex_Expr)) (x1 : (List Int)) : Option Bool := (if x0.isNone = true then (some false) else ((x0).bind fun y2 => (if (y2.prog.length : Int) = 0 then (some false) else ((made 1 false (y2.prog.length : Int)).bind fun l11 => ((regex_Expr_Match.l0 k x0 x1 y2 l11 0).bind fun o => match o with | .inl r => some r | .inr _ => none)))))
abbrev regex_Expr_Match.C (k : Nat) : Prop := ∀ {x0 : (Option T_regex_Expr)} {x1 : (List Int)} {vx0 : Value} {vx1 : Value} {F : List It} {I : IMem} {w : World} {r : Bool}, Glob I → Own I w (F) → PtR R_regex_Expr I vx0 x0 → SlR (tInt' .u32) I vx1 x1 → regex_Expr_Match.f k x0 x1 = some r →
    Calls Tryd.prog 10 #[vx0, vx1] w fun e w' => ∃ v, e = .returned v ∧ v = .bool r ∧ Own I w' (F)
theorem regex_Expr_Match.ok (k : Nat) : regex_Expr_Match.C k := by
  intro x0 x1 vx0 vx1 F I w r hG S hx0 hx1 H
  have hI := IMem.le.refl I
  rw [regex_Expr_Match.f] at H
  refine Calls.ofFW (args := [vx0, vx1]) Tryd.func10 rfl rfl ?_
  refine FW.seq ?_
  refine FW.region ?_
  refine U rfl rfl (V (x_asgV (v := .bool false) rfl) ?_)
  refine FW.seq ?_
  refine FW.seq ?_
  refine FW.region ?_
  refine U rfl rfl (V (x_movV (v := vx0) rfl) ?_)
  refine U rfl rfl (V (x_onil (r := R_regex_Expr) tptr24 hx0 rfl) ?_)
  refine U rfl rfl (V (x_movV (v := .bool x0.isNone) rfl) ?_)
  by_cases cc1 : x0.isNone = true
  · rw [if_pos cc1] at H
    refine OK.gf rfl rfl rfl cc1 ?_
    refine OK.gf rfl rfl rfl cc1 ?_
    refine OK.gf rfl rfl rfl cc1 ?_
    refine OK.gf rfl rfl rfl cc1 ?_
    refine OK.gf rfl rfl rfl cc1 ?_
    refine OK.gf rfl rfl rfl cc1 ?_
    refine U rfl rfl (V (x_pickTV (v := .bool true) rfl cc1 rfl) ?_)
    refine FW.condT rfl rfl ?_
    refine FW.seq ?_
    refine FW.region ?_
    refine U rfl rfl (V (x_asgV (v := .bool false) rfl) ?_)
    refine FW.ret ?_
    obtain rfl := Option.some.inj H
    exact ⟨_, ⟨_, rfl, rfl⟩, ⟨rfl, (S.weaken hI)⟩⟩
  · rw [if_neg cc1] at H
    refine OK.gt rfl rfl rfl (vaF cc1) (V (x_movV (v := vx0) rfl) ?_)
    obtain ⟨y2, hy3, H⟩ := obx H
    obtain ⟨b4, o5, cs6, hv7, hr8, hc9⟩ := hx0.some hy3
    obtain ⟨y2v1, y2v2, y2v4, rfl, y2h1, y2h2, y2h4⟩ := hr8
    refine OK.gt rfl rfl rfl (vaF cc1) (V (x_nk hv7) ?_)
    refine OK.gt rfl rfl rfl (vaF cc1) (V (x_fa tf55_1 rfl) ?_)
    refine OK.gt rfl rfl rfl (vaF cc1) (V (x_ld tsc53 rfl (S.cell _ _ _ (hc9 4 _ rfl))) ?_)
    refine OK.gt rfl rfl rfl (vaF cc1) (V (x_lenD (r := R_regex_step) tsl53 y2h4) ?_)
    refine OK.gt rfl rfl rfl (vaF cc1) (V (x_bin rfl rfl rfl) ?_)
    refine U rfl rfl (V (x_pickFV (v := .bool ((y2.prog.length : Int) == 0)) rfl (vaF cc1) rfl) ?_)
    by_cases cc10 : (y2.prog.length : Int) = 0
    · rw [if_pos cc10] at H
      refine FW.condT rfl (eqT cc10) ?_
      refine FW.seq ?_
      refine FW.anew [] trivial fun σ => ?_
      refine FW.region ?_
      refine U rfl rfl (V (x_asgV (v := .bool false) rfl) ?_)
      refine FW.ret ?_
      obtain rfl := Option.some.inj H
      exact ⟨_, ⟨_, rfl, rfl⟩, ⟨rfl, (S.weaken hI)⟩⟩
    · rw [if_neg cc10] at H
      refine FW.condF rfl (eqF cc10) ?_
      refine FW.skip ?_
      refine FW.seq ?_
      refine FW.anew [(0, vx0), (1, vx1)] ⟨rfl, rfl, trivial⟩ fun σ => ?_
      refine FW.region ?_
      refine U rfl rfl (V (x_movV (v := vx0) rfl) ?_)
      refine U rfl rfl (V (x_nk hv7) ?_)
      refine U rfl rfl (V (x_fa tf55_1 rfl) ?_)
      refine U rfl rfl (V (x_ld tsc53 rfl (S.cell _ _ _ (hc9 4 _ rfl))) ?_)
      refine U rfl rfl (V (x_lenD (r := R_regex_step) tsl53 y2h4) ?_)
      refine U rfl rfl (V (x_bin rfl rfl rfl) ?_)
      refine U rfl rfl (V (x_asgV (v := .int .i64 (i64 ((y2.prog.length : Int) - 1))) rfl) ?_)
      refine FW.seq ?_
      refine FW.anew [(0, vx0), (1, vx1), (5, .int .i64 (i64 ((y2.prog.length : Int) - 1)))] ⟨rfl, rfl, rfl, trivial⟩ fun σ => ?_
      refine FW.region ?_
      refine U rfl rfl (V (x_movV (v := vx0) rfl) ?_)
      refine U rfl rfl (V (x_nk hv7) ?_)
      refine U rfl rfl (V (x_fa tf55_1 rfl) ?_)
      refine U rfl rfl (V (x_ld tsc53 rfl (S.cell _ _ _ (hc9 4 _ rfl))) ?_)
      refine U rfl rfl (V (x_lenD (r := R_regex_step) tsl53 y2h4) ?_)
      obtain ⟨l11, h13, H⟩ := obx H
      refine U rfl rfl (o_mk (r := tBool) (x0 := false) tsl64 tz4 rfl rfl rfl rfl rfl h13 rfl S fun v12 w a15 S h14 => ?_)
      refine U rfl rfl (V (x_asgV (v := v12) rfl) ?_)
      refine FW.seq ?_
      refine FW.anew [(0, vx0), (1, vx1), (5, .int .i64 (i64 ((y2.prog.length : Int) - 1))), (6, v12)] ⟨rfl, rfl, rfl, rfl, trivial⟩ fun σ => ?_
      refine FW.region ?_
      refine U rfl rfl (V (x_asgV (v := .int .i64 0) rfl) ?_)
      refine FW.block ?_
      obtain ⟨o26, hl28, HO27⟩ := obx H
      ·
        refine FW.loop k (FL.ind (fun q σ w => ∃ (l18 : (List Bool)) (n23 : Int) (v19 : Value) (a20 : List Value) (J17 : IMem), regex_Expr_Match.l0 q x0 x1 y2 l18 n23 = some o26 ∧ q ≤ k ∧ Has σ [(0, vx0), (1, vx1), (5, .int .i64 (i64 ((y2.prog.length : Int) - 1))), (6, v19), (7, .int .i64 n23)] ∧ I.le J17 ∧ Own J17 w (.av v19 4 1 a20 :: F) ∧ Flat tBool J17 a20 l18) ?_ ?_ k k _ _ (Nat.le_refl _) ⟨l11, 0, v12, a15, I, hl28, Nat.le_refl _, ⟨rfl, rfl, rfl, rfl, rfl, trivial⟩, (IMem.le.refl _), S, h14⟩)
        · rintro σ w ⟨l18, n23, v19, a20, J17, H, _⟩; cases H
        · rintro q24 σ w ⟨l18, n23, v19, a20, J17, H, hq29, hσ, hL25, S, h21⟩
          have hx0 := hx0.mono hL25
          have hx1 := hx1.mono hL25
          have hc9 := hc9.mono hL25
          have y2h1 := y2h1.mono hL25
          have y2h2 := y2h2.mono hL25
          have y2h4 := y2h4.mono hL25
          have hI := hI.trans hL25
          have hG := hG.mono hL25
          rw [hσ.eq]
          rw [regex_Expr_Match.l0] at H
          refine FW.seq ?_
          refine FW.block ?_
          refine FW.seq ?_
          refine FW.region ?_
          refine U rfl rfl (V (x_movV (v := vx0) rfl) ?_)
          refine U rfl rfl (V (x_movV (v := v19) rfl) ?_)
          refine U rfl rfl (V (x_movV (v := .int .i64 n23) rfl) ?_)
          refine U rfl rfl (V (x_movV (v := vx1) rfl) ?_)
          refine U rfl rfl (V (x_lenD (r := (tInt' .u32)) tsl22 hx1) ?_)
          obtain ⟨y30, hy31, H⟩ := obx H
          refine U rfl rfl (cl fb22 (@regex_Expr_add.ok q24 x0 l18 0 n23 (x1.length : Int) _ _ _ _ _ _ _ hG S hx0 h21 hy31) rfl ?_)
          rintro _ w ⟨cy30_0, J32, hJ33, rfl, hy30_0, S⟩
          have hx0 := hx0.mono hJ33
          have hx1 := hx1.mono hJ33
          have hc9 := hc9.mono hJ33
          have y2h1 := y2h1.mono hJ33
          have y2h2 := y2h2.mono hJ33
          have y2h4 := y2h4.mono hJ33
          have hI := hI.trans hJ33
          have hL25 := hL25.trans hJ33
          have hG := hG.mono hJ33
          refine FW.seq ?_
          refine FW.seq ?_
          refine FW.region ?_
          refine U rfl rfl (V (x_movV (v := v19) rfl) ?_)
          refine U rfl rfl (V (x_movV (v := .int .i64 (i64 ((y2.prog.length : Int) - 1))) rfl) ?_)
          obtain ⟨y34, h35, H⟩ := obx H
          refine U rfl rfl (o_iaV (r := tBool) tsl64 rfl rfl S 0 rfl hy30_0 rfl h35 fun b36 cs37 cc38 hv39 hr40 hc41 => ?_)
          obtain rfl := hr40
          refine U rfl rfl (V (x_ld tsc4 rfl (S.loadV 0 rfl hv39 (hc41 0 _ rfl))) ?_)
          refine U rfl rfl (V (x_movV (v := .bool y34) rfl) ?_)
          by_cases cc42 : y34 = true
          · rw [if_pos cc42] at H
            refine OK.gf rfl rfl rfl cc42 ?_
            refine OK.gf rfl rfl rfl cc42 ?_
            refine OK.gf rfl rfl rfl cc42 ?_
            refine OK.gf rfl rfl rfl cc42 ?_
            refine U rfl rfl (V (x_pickTV (v := .bool true) rfl cc42 rfl) ?_)
            refine FW.condT rfl rfl ?_
            refine FW.seq ?_
            refine FW.anew [(5, .int .i64 (i64 ((y2.prog.length : Int) - 1))), (6, v19)] ⟨rfl, rfl, trivial⟩ fun σ => ?_
            refine FW.region ?_
            refine U rfl rfl (V (x_movV (v := v19) rfl) ?_)
            refine U rfl rfl (V (x_movV (v := .int .i64 (i64 ((y2.prog.length : Int) - 1))) rfl) ?_)
            obtain ⟨y43, h44, H⟩ := obx H
            refine U rfl rfl (o_iaV (r := tBool) tsl64 rfl rfl S 0 rfl hy30_0 rfl h44 fun b45 cs46 cc47 hv48 hr49 hc50 => ?_)
            obtain rfl := hr49
            refine U rfl rfl (V (x_ld tsc4 rfl (S.loadV 0 rfl hv48 (hc50 0 _ rfl))) ?_)
            refine U rfl rfl (V (x_asgV (v := .bool y43) rfl) ?_)
            refine FW.ret ?_
            obtain rfl := Option.some.inj H
            obtain rfl := Option.some.inj HO27
            exact ⟨_, ⟨_, rfl, rfl⟩, ⟨rfl, ((S.sel 1 [] rfl).weaken hI)⟩⟩
          · rw [if_neg cc42] at H
            refine OK.gt rfl rfl rfl (vaF cc42) (V (x_movV (v := .int .i64 n23) rfl) ?_)
            refine OK.gt rfl rfl rfl (vaF cc42) (V (x_movV (v := vx1) rfl) ?_)
            refine OK.gt rfl rfl rfl (vaF cc42) (V (x_lenD (r := (tInt' .u32)) tsl22 hx1) ?_)
            refine OK.gt rfl rfl rfl (vaF cc42) (V (x_bin rfl rfl rfl) ?_)
            refine U rfl rfl (V (x_pickFV (v := .bool (n23 == (x1.length : Int))) rfl (vaF cc42) rfl) ?_)
            by_cases cc51 : n23 = (x1.length : Int)
            · rw [if_pos cc51] at H
              refine FW.condT rfl (eqT cc51) ?_
              refine FW.seq ?_
              refine FW.anew [(5, .int .i64 (i64 ((y2.prog.length : Int) - 1))), (6, v19)] ⟨rfl, rfl, trivial⟩ fun σ => ?_
              refine FW.region ?_
              refine U rfl rfl (V (x_movV (v := v19) rfl) ?_)
              refine U rfl rfl (V (x_movV (v := .int .i64 (i64 ((y2.prog.length : Int) - 1))) rfl) ?_)
              obtain ⟨y52, h53, H⟩ := obx H
              refine U rfl rfl (o_iaV (r := tBool) tsl64 rfl rfl S 0 rfl hy30_0 rfl h53 fun b54 cs55 cc56 hv57 hr58 hc59 => ?_)
              obtain rfl := hr58
              refine U rfl rfl (V (x_ld tsc4 rfl (S.loadV 0 rfl hv57 (hc59 0 _ rfl))) ?_)
              refine U rfl rfl (V (x_asgV (v := .bool y52) rfl) ?_)
              refine FW.ret ?_
              obtain rfl := Option.some.inj H
              obtain rfl := Option.some.inj HO27
              exact ⟨_, ⟨_, rfl, rfl⟩, ⟨rfl, ((S.sel 1 [] rfl).weaken hI)⟩⟩
            · rw [if_neg cc51] at H
              refine FW.condF rfl (eqF cc51) ?_
              refine FW.skip ?_
              refine FW.seq ?_
              refine FW.anew [(0, vx0), (1, vx1), (5, .int .i64 (i64 ((y2.prog.length : Int) - 1))), (6, v19), (7, .int .i64 n23)] ⟨rfl, rfl, rfl, rfl, rfl, trivial⟩ fun σ => ?_
              refine FW.region ?_
              refine U rfl rfl (V (x_movV (v := vx0) rfl) ?_)
              refine U rfl rfl (V (x_nk hv7) ?_)
              refine U rfl rfl (V (x_fa tf55_1 rfl) ?_)
              refine U rfl rfl (V (x_ld tsc53 rfl (S.cell _ _ _ (hc9 4 _ rfl))) ?_)
              refine U rfl rfl (V (x_lenD (r := R_regex_step) tsl53 y2h4) ?_)
              obtain ⟨l60, h62, H⟩ := obx H
              refine U rfl rfl (o_mk (r := tBool) (x0 := false) tsl64 tz4 rfl rfl rfl rfl rfl h62 rfl S fun v61 w a64 S h63 => ?_)
              refine U rfl rfl (V (x_asgV (v := v61) rfl) ?_)
              refine FW.seq ?_
              refine FW.seq ?_
              refine FW.anew [(0, vx0), (1, vx1), (5, .int .i64 (i64 ((y2.prog.length : Int) - 1))), (6, v19), (7, .int .i64 n23), (8, v61)] ⟨rfl, rfl, rfl, rfl, rfl, rfl, trivial⟩ fun σ => ?_
              refine FW.region ?_
              refine U rfl rfl (V (x_movV (v := v19) rfl) ?_)
              refine U rfl rfl (V (x_lenV (r := tBool) tsl64 rfl rfl S 1 rfl hy30_0) ?_)
              refine U rfl rfl (V (x_movV (v := .int .i64 0) rfl) ?_)
              refine FW.block ?_
              obtain ⟨o75, hl77, HO76⟩ := obx H
              refine FW.cutX 2 (fun σ w => ∃ (l79 : (List Bool)) (v80 : Value) (a81 : List Value) (J78 : IMem), l79 = o75 ∧ Has σ [(0, vx0), (1, vx1), (5, .int .i64 (i64 ((y2.prog.length : Int) - 1))), (7, .int .i64 n23), (8, v80)] ∧ J32.le J78 ∧ Own J78 w (.av v80 4 1 a81 :: F) ∧ Flat tBool J78 a81 l79) ?_ ?_
              ·
                refine FW.loop q24 (FL.ind (fun q σ w => ∃ (l67 : (List Bool)) (n72 : Int) (v68 : Value) (a69 : List Value) (J66 : IMem), regex_Expr_Match.l1 q x0 x1 y2 n23 y30 l67 n72 = some o75 ∧ q ≤ q24 ∧ Has σ [(0, vx0), (1, vx1), (5, .int .i64 (i64 ((y2.prog.length : Int) - 1))), (7, .int .i64 n23), (8, v68), (61, v19), (62, .int .i64 (y30.length : Int)), (63, .int .i64 n72)] ∧ J32.le J66 ∧ Own J66 w (.av v19 4 1 cy30_0 :: .av v68 4 1 a69 :: F) ∧ Flat tBool J66 a69 l67) ?_ ?_ q24 q24 _ _ (Nat.le_refl _) ⟨l60, 0, v61, a64, J32, hl77, Nat.le_refl _, ⟨rfl, rfl, rfl, rfl, rfl, rfl, rfl, rfl, trivial⟩, (IMem.le.refl _), (S.sel 2 [1, 0] rfl), h63⟩)
                · rintro σ w ⟨l67, n72, v68, a69, J66, H, _⟩; cases H
                · rintro q73 σ w ⟨l67, n72, v68, a69, J66, H, hq84, hσ, hL74, S, h70⟩
                  have hx0 := hx0.mono hL74
                  have hx1 := hx1.mono hL74
                  have hc9 := hc9.mono hL74
                  have y2h1 := y2h1.mono hL74
                  have y2h2 := y2h2.mono hL74
                  have y2h4 := y2h4.mono hL74
                  have hy30_0 := hy30_0.mono hL74
                  have hI := hI.trans hL74
                  have hL25 := hL25.trans hL74
                  have hG := hG.mono hL74
                  rw [hσ.eq]
                  rw [regex_Expr_Match.l1] at H
                  refine FW.seq ?_
                  refine FW.region ?_
                  refine U rfl rfl (V (x_bin rfl rfl rfl) ?_)
                  refine FW.seq ?_
                  by_cases cc85 : n72 < (y30.length : Int)
                  · rw [if_pos cc85] at H
                    refine FW.condT rfl (deT cc85) ?_
                    refine FW.skip ?_
                    refine FW.seq ?_
                    refine FW.block ?_
                    refine FW.seq ?_
                    refine FW.region ?_
                    refine U rfl rfl (V (x_movV (v := .int .i64 n72) rfl) ?_)
                    obtain ⟨y86, h87, H⟩ := obx H
                    refine U rfl rfl (o_iaV (r := tBool) tsl64 rfl rfl S 0 rfl hy30_0 rfl h87 fun b88 cs89 cc90 hv91 hr92 hc93 => ?_)
                    obtain rfl := hr92
                    refine U rfl rfl (V (x_ld tsc4 rfl (S.loadV 0 rfl hv91 (hc93 0 _ rfl))) ?_)
                    refine U rfl rfl (V (x_asgV (v := .int .i64 n72) rfl) ?_)
                    refine U rfl rfl (V (x_asgV (v := .bool y86) rfl) ?_)
                    refine FW.seq ?_
                    have S := S.drew
                    refine FW.regionD mixed ?_
                    have hO := Hold.nil (w := { w with drawn := w.drawn + 1 })
                    refine AQ.pure 0 rfl (by kernel_rfl) (by kernel_rfl) (by kernel_rfl) rfl hO (fun w => x_movV (v := .bool y86) rfl) ?_
                    refine AQ.pure 1 rfl (by kernel_rfl) (by kernel_rfl) (by kernel_rfl) rfl hO (fun w => x_movV (v := .bool y86) rfl) ?_
                    by_cases cc94 : y86 = true
                    · rw [if_pos cc94] at H
                      refine AQ.pure 2 rfl (by kernel_rfl) (by kernel_rfl) (by kernel_rfl) (gT rfl rfl cc94) hO (fun w => x_movV (v := vx0) rfl) ?_
                      refine AQ.pure 3 rfl (by kernel_rfl) (by kernel_rfl) (by kernel_rfl) (gT rfl rfl cc94) hO (fun w => x_nk hv7) ?_
                      refine AQ.pure 4 rfl (by kernel_rfl) (by kernel_rfl) (by kernel_rfl) (gT rfl rfl cc94) hO (fun w => x_fa tf55_1 rfl) ?_
                      have hR95 := IMem.le.refl J66
                      refine AQ.take (S := Stab J66 []) 5 rfl (by kernel_rfl) (by kernel_rfl) (by kernel_rfl) (gT rfl rfl cc94) hO (Stab.nil S hR95) (fun w hS => x_ld tsc53 rfl (hS.cell _ _ _ (hc9 4 _ rfl))) fun hO => ?_
                      refine AQ.pure 6 rfl (by kernel_rfl) (by kernel_rfl) (by kernel_rfl) (gT rfl rfl cc94) hO (fun w => x_movV (v := .int .i64 n72) rfl) ?_
                      obtain ⟨y96, h97, H⟩ := obx H
                      refine AQ.pureE 7 rfl (by kernel_rfl) (by kernel_rfl) (by kernel_rfl) (gT rfl rfl cc94) hO (e_ia (r := R_regex_step) tsl53 rfl rfl y2h4 rfl h97) ?_
                      rintro _ ⟨b98, o99, cs100, rfl, hr101, hc102⟩
                      obtain ⟨y96v1, rfl, y96h1⟩ := hr101
                      refine AQ.pure 8 rfl (by kernel_rfl) (by kernel_rfl) (by kernel_rfl) (gT rfl rfl cc94) hO (fun w => x_fa tf59_0 rfl) ?_
                      refine AQ.take (S := Stab J66 []) 9 rfl (by kernel_rfl) (by kernel_rfl) (by kernel_rfl) (gT rfl rfl cc94) hO (Stab.nil S hR95) (fun w hS => x_ld tsc3 rfl (hS.cell _ _ _ (hc102 0 _ rfl))) fun hO => ?_
                      refine AQ.pure 10 rfl (by kernel_rfl) (by kernel_rfl) (by kernel_rfl) (gT rfl rfl cc94) hO (fun w => x_bin rfl rfl rfl) ?_
                      refine AQ.pure 11 rfl (by kernel_rfl) (by kernel_rfl) (by kernel_rfl) rfl hO (fun w => x_pickTV (v := .bool (y96.op == 0)) rfl cc94 rfl) ?_
                      refine AQ.pure 12 rfl (by kernel_rfl) (by kernel_rfl) (by kernel_rfl) rfl hO (fun w => x_movV (v := .bool (y96.op == 0)) rfl) ?_
                      by_cases cc103 : y96.op = 0
                      · rw [if_pos cc103] at H
                        refine AQ.pure 13 rfl (by kernel_rfl) (by kernel_rfl) (by kernel_rfl) (gT rfl rfl (eqT cc103)) hO (fun w => x_movV (v := vx0) rfl) ?_
                        refine AQ.pure 14 rfl (by kernel_rfl) (by kernel_rfl) (by kernel_rfl) (gT rfl rfl (eqT cc103)) hO (fun w => x_nk hv7) ?_
                        refine AQ.pure 15 rfl (by kernel_rfl) (by kernel_rfl) (by kernel_rfl) (gT rfl rfl (eqT cc103)) hO (fun w => x_fa tf55_1 rfl) ?_
                        refine AQ.take (S := Stab J66 []) 16 rfl (by kernel_rfl) (by kernel_rfl) (by kernel_rfl) (gT rfl rfl (eqT cc103)) hO (Stab.nil S hR95) (fun w hS => x_ld tsc53 rfl (hS.cell _ _ _ (hc9 4 _ rfl))) fun hO => ?_
                        refine AQ.pure 17 rfl (by kernel_rfl) (by kernel_rfl) (by kernel_rfl) (gT rfl rfl (eqT cc103)) hO (fun w => x_movV (v := .int .i64 n72) rfl) ?_
                        obtain ⟨y104, h105, H⟩ := obx H
                        refine AQ.pureE 18 rfl (by kernel_rfl) (by kernel_rfl) (by kernel_rfl) (gT rfl rfl (eqT cc103)) hO (e_ia (r := R_regex_step) tsl53 rfl rfl y2h4 rfl h105) ?_
                        rintro _ ⟨b106, o107, cs108, rfl, hr109, hc110⟩
                        obtain ⟨y104v1, rfl, y104h1⟩ := hr109
                        refine AQ.take (S := Stab J66 []) 19 rfl (by kernel_rfl) (by kernel_rfl) (by kernel_rfl) (gT rfl rfl (eqT cc103)) hO (Stab.nil S hR95) (fun w hS => x_ldA tag59 rfl (hS.loadI hc110) rfl) fun hO => ?_
                        refine AQ.pure 20 rfl (by kernel_rfl) (by kernel_rfl) (by kernel_rfl) (gT rfl rfl (eqT cc103)) hO (fun w => x_movV (v := vx1) rfl) ?_
                        refine AQ.pure 21 rfl (by kernel_rfl) (by kernel_rfl) (by kernel_rfl) (gT rfl rfl (eqT cc103)) hO (fun w => x_movV (v := .int .i64 n23) rfl) ?_
                        obtain ⟨y111, h112, H⟩ := obx H
                        refine AQ.pureE 22 rfl (by kernel_rfl) (by kernel_rfl) (by kernel_rfl) (gT rfl rfl (eqT cc103)) hO (e_ia (r := (tInt' .u32)) tsl22 rfl rfl hx1 rfl h112) ?_
                        rintro _ ⟨b113, o114, cs115, rfl, hr116, hc117⟩
                        obtain rfl := hr116
                        refine AQ.take (S := Stab J66 []) 23 rfl (by kernel_rfl) (by kernel_rfl) (by kernel_rfl) (gT rfl rfl (eqT cc103)) hO (Stab.nil S hR95) (fun w hS => x_ld tsc38 rfl (hS.cell _ _ _ (hc117 0 _ rfl))) fun hO => ?_
                        refine AQ.one 24 [23, 19, 16, 9, 5] [false, false, true, true, true] (by kernel_rfl) rfl (by kernel_rfl) ?_
                        obtain ⟨y118, hy119, H⟩ := obx H
                        refine OK.gt rfl rfl rfl (eqT cc103) (cl fb23 (@regex_step_takes.ok q73 y104 y111 _ _ _ _ _ hG S y104h1 hy119) rfl ?_)
                        rintro _ w ⟨rfl, S⟩
                        refine andI (Hold.cons (Stab.nil S hR95) (Hold.cons (Stab.nil S hR95) (Hold.cons (Stab.nil S hR95) Hold.nil))) fun hO => ?_
                        refine AQ.pure 25 rfl (by kernel_rfl) (by kernel_rfl) (by kernel_rfl) rfl hO (fun w => x_pickTV (v := .bool y118) rfl (eqT cc103) rfl) ?_
                        refine AQ.done (by kernel_rfl) ?_
                        by_cases cc120 : y118 = true
                        · rw [if_pos cc120] at H
                          refine FW.condT rfl cc120 ?_
                          refine FW.anew [(0, vx0), (1, vx1), (5, .int .i64 (i64 ((y2.prog.length : Int) - 1))), (7, .int .i64 n23), (8, v68), (9, .int .i64 n72), (61, v19), (62, .int .i64 (y30.length : Int)), (63, .int .i64 n72)] ⟨rfl, rfl, rfl, rfl, rfl, rfl, rfl, rfl, rfl, trivial⟩ fun σ => ?_
                          refine FW.region ?_
                          refine U rfl rfl (V (x_movV (v := vx0) rfl) ?_)
                          refine U rfl rfl (V (x_movV (v := v68) rfl) ?_)
                          refine U rfl rfl (V (x_movV (v := .int .i64 n72) rfl) ?_)
                          refine U rfl rfl (V (x_bin rfl rfl rfl) ?_)
                          refine U rfl rfl (V (x_movV (v := .int .i64 n23) rfl) ?_)
                          refine U rfl rfl (V (x_bin rfl rfl rfl) ?_)
                          refine U rfl rfl (V (x_movV (v := vx1) rfl) ?_)
                          refine U rfl rfl (V (x_lenD (r := (tInt' .u32)) tsl22 hx1) ?_)
                          obtain ⟨y121, hy122, H⟩ := obx H
                          refine U rfl rfl (cl fb22 (@regex_Expr_add.ok q73 x0 l67 (i64 (n72 + 1)) (i64 (n23 + 1)) (x1.length : Int) _ _ _ _ _ _ _ hG (S.sel 2 [1, 0] rfl) hx0 h70 hy122) rfl ?_)
                          rintro _ w ⟨cy121_0, J123, hJ124, rfl, hy121_0, S⟩
                          have hx0 := hx0.mono hJ124
                          have hx1 := hx1.mono hJ124
                          have hc9 := hc9.mono hJ124
                          have y2h1 := y2h1.mono hJ124
                          have y2h2 := y2h2.mono hJ124
                          have y2h4 := y2h4.mono hJ124
                          have hy30_0 := hy30_0.mono hJ124
                          have hI := hI.trans hJ124
                          have hL25 := hL25.trans hJ124
                          have hL74 := hL74.trans hJ124
                          have hG := hG.mono hJ124
                          refine FW.anew [(0, vx0), (1, vx1), (5, .int .i64 (i64 ((y2.prog.length : Int) - 1))), (7, .int .i64 n23), (8, v68), (61, v19), (62, .int .i64 (y30.length : Int)), (63, .int .i64 n72)] ⟨rfl, rfl, rfl, rfl, rfl, rfl, rfl, rfl, trivial⟩ fun σ => ?_
                          refine FW.region ?_
                          refine U rfl rfl (V (x_bin rfl rfl rfl) ?_)
                          refine U rfl rfl (V (x_movV (v := .int .i64 (i64 (n72 + 1))) rfl) ?_)
                          exact ⟨q73, Nat.le_refl _, y121, (i64 (n72 + 1)), v68, cy121_0, J123, H, (Nat.le_of_succ_le hq84), ⟨rfl, rfl, rfl, rfl, rfl, rfl, rfl, rfl, trivial⟩, hL74, (S.sel 2 [1, 0] rfl), hy121_0⟩
                        · rw [if_neg cc120] at H
                          refine FW.condF rfl (vaF cc120) ?_
                          refine FW.skip ?_
                          refine FW.anew [(0, vx0), (1, vx1), (5, .int .i64 (i64 ((y2.prog.length : Int) - 1))), (7, .int .i64 n23), (8, v68), (61, v19), (62, .int .i64 (y30.length : Int)), (63, .int .i64 n72)] ⟨rfl, rfl, rfl, rfl, rfl, rfl, rfl, rfl, trivial⟩ fun σ => ?_
                          refine FW.region ?_
                          refine U rfl rfl (V (x_bin rfl rfl rfl) ?_)
                          refine U rfl rfl (V (x_movV (v := .int .i64 (i64 (n72 + 1))) rfl) ?_)
                          exact ⟨q73, Nat.le_refl _, l67, (i64 (n72 + 1)), v68, a69, J66, H, (Nat.le_of_succ_le hq84), ⟨rfl, rfl, rfl, rfl, rfl, rfl, rfl, rfl, trivial⟩, hL74, S, h70⟩
                      · rw [if_neg cc103] at H
                        refine AQ.skip 13 rfl (by kernel_rfl) (by kernel_rfl) (by kernel_rfl) rfl rfl (eqF cc103) hO ?_
                        refine AQ.skip 14 rfl (by kernel_rfl) (by kernel_rfl) (by kernel_rfl) rfl rfl (eqF cc103) hO ?_
                        refine AQ.skip 15 rfl (by kernel_rfl) (by kernel_rfl) (by kernel_rfl) rfl rfl (eqF cc103) hO ?_
                        refine AQ.skip 16 rfl (by kernel_rfl) (by kernel_rfl) (by kernel_rfl) rfl rfl (eqF cc103) hO ?_
                        refine AQ.skip 17 rfl (by kernel_rfl) (by kernel_rfl) (by kernel_rfl) rfl rfl (eqF cc103) hO ?_
                        refine AQ.skip 18 rfl (by kernel_rfl) (by kernel_rfl) (by kernel_rfl) rfl rfl (eqF cc103) hO ?_
                        refine AQ.skip 19 rfl (by kernel_rfl) (by kernel_rfl) (by kernel_rfl) rfl rfl (eqF cc103) hO ?_
                        refine AQ.skip 20 rfl (by kernel_rfl) (by kernel_rfl) (by kernel_rfl) rfl rfl (eqF cc103) hO ?_
                        refine AQ.skip 21 rfl (by kernel_rfl) (by kernel_rfl) (by kernel_rfl) rfl rfl (eqF cc103) hO ?_
                        refine AQ.skip 22 rfl (by kernel_rfl) (by kernel_rfl) (by kernel_rfl) rfl rfl (eqF cc103) hO ?_
                        refine AQ.skip 23 rfl (by kernel_rfl) (by kernel_rfl) (by kernel_rfl) rfl rfl (eqF cc103) hO ?_
                        refine AQ.skip 24 rfl (by kernel_rfl) (by kernel_rfl) (by kernel_rfl) rfl rfl (eqF cc103) hO ?_
                        refine AQ.pure 25 rfl (by kernel_rfl) (by kernel_rfl) (by kernel_rfl) rfl hO (fun w => x_pickFV (v := .bool false) rfl (eqF cc103) rfl) ?_
                        refine AQ.done (by kernel_rfl) ?_
                        refine FW.condF rfl rfl ?_
                        refine FW.skip ?_
                        refine FW.anew [(0, vx0), (1, vx1), (5, .int .i64 (i64 ((y2.prog.length : Int) - 1))), (7, .int .i64 n23), (8, v68), (61, v19), (62, .int .i64 (y30.length : Int)), (63, .int .i64 n72)] ⟨rfl, rfl, rfl, rfl, rfl, rfl, rfl, rfl, trivial⟩ fun σ => ?_
                        refine FW.region ?_
                        refine U rfl rfl (V (x_bin rfl rfl rfl) ?_)
                        refine U rfl rfl (V (x_movV (v := .int .i64 (i64 (n72 + 1))) rfl) ?_)
                        exact ⟨q73, Nat.le_refl _, l67, (i64 (n72 + 1)), v68, a69, J66, H, (Nat.le_of_succ_le hq84), ⟨rfl, rfl, rfl, rfl, rfl, rfl, rfl, rfl, trivial⟩, hL74, S, h70⟩
                    · rw [if_neg cc94] at H
                      refine AQ.skip 2 rfl (by kernel_rfl) (by kernel_rfl) (by kernel_rfl) rfl rfl (vaF cc94) hO ?_
                      refine AQ.skip 3 rfl (by kernel_rfl) (by kernel_rfl) (by kernel_rfl) rfl rfl (vaF cc94) hO ?_
                      refine AQ.skip 4 rfl (by kernel_rfl) (by kernel_rfl) (by kernel_rfl) rfl rfl (vaF cc94) hO ?_
                      refine AQ.skip 5 rfl (by kernel_rfl) (by kernel_rfl) (by kernel_rfl) rfl rfl (vaF cc94) hO ?_
                      refine AQ.skip 6 rfl (by kernel_rfl) (by kernel_rfl) (by kernel_rfl) rfl rfl (vaF cc94) hO ?_
                      refine AQ.skip 7 rfl (by kernel_rfl) (by kernel_rfl) (by kernel_rfl) rfl rfl (vaF cc94) hO ?_
                      refine AQ.skip 8 rfl (by kernel_rfl) (by kernel_rfl) (by kernel_rfl) rfl rfl (vaF cc94) hO ?_
                      refine AQ.skip 9 rfl (by kernel_rfl) (by kernel_rfl) (by kernel_rfl) rfl rfl (vaF cc94) hO ?_
                      refine AQ.skip 10 rfl (by kernel_rfl) (by kernel_rfl) (by kernel_rfl) rfl rfl (vaF cc94) hO ?_
                      refine AQ.pure 11 rfl (by kernel_rfl) (by kernel_rfl) (by kernel_rfl) rfl hO (fun w => x_pickFV (v := .bool false) rfl (vaF cc94) rfl) ?_
                      refine AQ.pure 12 rfl (by kernel_rfl) (by kernel_rfl) (by kernel_rfl) rfl hO (fun w => x_movV (v := .bool false) rfl) ?_
                      refine AQ.skip 13 rfl (by kernel_rfl) (by kernel_rfl) (by kernel_rfl) rfl rfl rfl hO ?_
                      refine AQ.skip 14 rfl (by kernel_rfl) (by kernel_rfl) (by kernel_rfl) rfl rfl rfl hO ?_
                      refine AQ.skip 15 rfl (by kernel_rfl) (by kernel_rfl) (by kernel_rfl) rfl rfl rfl hO ?_
                      refine AQ.skip 16 rfl (by kernel_rfl) (by kernel_rfl) (by kernel_rfl) rfl rfl rfl hO ?_
                      refine AQ.skip 17 rfl (by kernel_rfl) (by kernel_rfl) (by kernel_rfl) rfl rfl rfl hO ?_
                      refine AQ.skip 18 rfl (by kernel_rfl) (by kernel_rfl) (by kernel_rfl) rfl rfl rfl hO ?_
                      refine AQ.skip 19 rfl (by kernel_rfl) (by kernel_rfl) (by kernel_rfl) rfl rfl rfl hO ?_
                      refine AQ.skip 20 rfl (by kernel_rfl) (by kernel_rfl) (by kernel_rfl) rfl rfl rfl hO ?_
                      refine AQ.skip 21 rfl (by kernel_rfl) (by kernel_rfl) (by kernel_rfl) rfl rfl rfl hO ?_
                      refine AQ.skip 22 rfl (by kernel_rfl) (by kernel_rfl) (by kernel_rfl) rfl rfl rfl hO ?_
                      refine AQ.skip 23 rfl (by kernel_rfl) (by kernel_rfl) (by kernel_rfl) rfl rfl rfl hO ?_
                      refine AQ.skip 24 rfl (by kernel_rfl) (by kernel_rfl) (by kernel_rfl) rfl rfl rfl hO ?_
                      refine AQ.pure 25 rfl (by kernel_rfl) (by kernel_rfl) (by kernel_rfl) rfl hO (fun w => x_pickFV (v := .bool false) rfl rfl rfl) ?_
                      refine AQ.done (by kernel_rfl) ?_
                      refine FW.condF rfl rfl ?_
                      refine FW.skip ?_
                      refine FW.anew [(0, vx0), (1, vx1), (5, .int .i64 (i64 ((y2.prog.length : Int) - 1))), (7, .int .i64 n23), (8, v68), (61, v19), (62, .int .i64 (y30.length : Int)), (63, .int .i64 n72)] ⟨rfl, rfl, rfl, rfl, rfl, rfl, rfl, rfl, trivial⟩ fun σ => ?_
                      refine FW.region ?_
                      refine U rfl rfl (V (x_bin rfl rfl rfl) ?_)
                      refine U rfl rfl (V (x_movV (v := .int .i64 (i64 (n72 + 1))) rfl) ?_)
                      exact ⟨q73, Nat.le_refl _, l67, (i64 (n72 + 1)), v68, a69, J66, H, (Nat.le_of_succ_le hq84), ⟨rfl, rfl, rfl, rfl, rfl, rfl, rfl, rfl, trivial⟩, hL74, S, h70⟩
                  · rw [if_neg cc85] at H
                    refine FW.condF rfl (deF cc85) ?_
                    refine FW.exit ?_
                    exact ⟨l67, v68, a69, J66, (Option.some.inj H), ⟨rfl, rfl, rfl, rfl, rfl, trivial⟩, hL74, (S.sel 2 [1] rfl), h70⟩
              · rintro σ w ⟨l79, v80, a81, J78, ho, hσ, hL74, S, h82⟩
                subst ho
                have H := HO76
                have hx0 := hx0.mono hL74
                have hx1 := hx1.mono hL74
                have hc9 := hc9.mono hL74
                have y2h1 := y2h1.mono hL74
                have y2h2 := y2h2.mono hL74
                have y2h4 := y2h4.mono hL74
                have hI := hI.trans hL74
                have hL25 := hL25.trans hL74
                have hG := hG.mono hL74
                rw [hσ.eq]
                refine FW.region ?_
                refine U rfl rfl (V (x_movV (v := v80) rfl) ?_)
                refine U rfl rfl (V (x_asgV (v := v80) rfl) ?_)
                refine FW.region ?_
                refine U rfl rfl (V (x_movV (v := .int .i64 n23) rfl) ?_)
                refine U rfl rfl (V (x_bin rfl rfl rfl) ?_)
                refine U rfl rfl (V (x_asgV (v := .int .i64 (i64 (n23 + 1))) rfl) ?_)
                exact ⟨q24, Nat.le_refl _, l79, (i64 (n23 + 1)), v80, a81, J78, H, (Nat.le_of_succ_le hq29), ⟨rfl, rfl, rfl, rfl, rfl, trivial⟩, hL25, S, h82⟩

def strings_Join.f (_k : Nat) (x0 : List ByteArray) (x1 : ByteArray) : Option ByteArray :=
  if x0.length ≤ 140737488355328 ∧ (Lib.join (x0.map (·.data.toList)) x1.data.toList).length ≤ 281474976710656 then some ⟨(Lib.join (x0.map (·.data.toList)) x1.data.toList).toArray⟩ else none
abbrev strings_Join.C (k : Nat) : Prop := ∀ {x0 : (List ByteArray)} {x1 : ByteArray} {vx0 : Value} {F : List It} {I : IMem} {w : World} {r : ByteArray}, Glob I → Own I w (F) → SlR tString I vx0 x0 → strings_Join.f k x0 x1 = some r →
    Calls Tryd.prog 40 #[vx0, .string x1] w fun e w' => ∃ v, e = .returned v ∧ v = .string r ∧ Own I w' (F)
theorem strFlat {I : IMem} : ∀ {l : List ByteArray} {cs : List Value}, Flat tString I cs l → cs = l.map Value.string
  | [], _, h => h
  | x :: l, _, ⟨c, cs', e, h1, h2⟩ => by
    obtain rfl : c = [.string x] := h1
    rw [e, strFlat h2]; rfl
theorem strings_Join.ok (k : Nat) : strings_Join.C k := by
  intro x0 x1 vx0 F I w r hG S hx0 H
  unfold strings_Join.f at H
  split at H
  · rename_i hh
    obtain rfl := Option.some.inj H
    obtain ⟨A, c, cs, rfl, k2, k3, k4, k5⟩ := hx0
    obtain rfl := strFlat k4
    cases x0 with
    | nil =>
      refine (Any.strings_Join_none laysJoin laysJoinX A c x1 w).mono ?_
      rintro e w' ⟨rfl, rfl⟩
      exact ⟨_, rfl, rfl, S⟩
    | cons y ys =>
      obtain ⟨a, rfl, hs, h6⟩ := k5.resolve_left (by simp)
      obtain ⟨bk, o, s⟩ := a
      simp only at hs
      subst hs
      have hcells : ∀ (j : Nat) x, (y :: ys)[j]? = some x → w.cell? ⟨bk, o + j, none⟩ = some (.string x) := fun j x hj => by
        refine S.cell _ _ _ (h6 j _ ?_)
        rw [List.getElem?_map, hj]; rfl
      have hb : bk < w.heap.size := by
        have := World.block_lt_of_cell? w _ (hcells 0 y rfl)
        simpa using this
      refine (Any.strings_Join_48 laysJoin laysJoinX bk o c (y :: ys) x1 w hcells hb hh.1 k2 hh.2).mono ?_
      rintro e w' ⟨rfl, hB⟩
      exact ⟨_, rfl, rfl, S.below hB⟩
  · cases H

def octet_Text.l0 : Nat → Int → Int → (List Int) → Option (Int × (List Int))
  | 0, _, _, _ => none
  | k + 1, n9, n10, l11 => ((lat digs (n9.tmod 10)).bind fun y25 => ((lat l11 (i64 (n10 - 1))).bind fun y29 => (if (u64 (n9.tdiv 10)) = 0 then (some ((i64 (n10 - 1)), (l11.set (i64 (n10 - 1)).toNat y25))) else (octet_Text.l0 k (u64 (n9.tdiv 10)) (i64 (n10 - 1)) (l11.set (i64 (n10 - 1)).toNat y25)))))
def octet_Text.f (k : Nat) (x0 : Int) : Option ByteArray := ((if x0 < 0 then (some (u64 (0 - (u64 x0)))) else (some (u64 x0))).bind fun n2 => ((octet_Text.l0 k n2 20 [0, 0, 0, 0, 0, 0, 0, 0, 0, 0, 0, 0, 0, 0, 0, 0, 0, 0, 0, 0]).bind fun (n20, l21) => (if x0 < 0 then ((cutL l21 n20).bind fun l44 => ((scat (⟨#[45]⟩) (ofB l44)).bind fun s47 => (some s47))) else ((cutL l21 n20).bind fun l53 => (some (ofB l53))))))
abbrev octet_Text.C (k : Nat) : Prop := ∀ {x0 : Int} {F : List It} {I : IMem} {w : World} {r : ByteArray}, Glob I → Own I w (F) → octet_Text.f k x0 = some r →
    Calls Tryd.prog 42 #[.int .i64 x0] w fun e w' => ∃ v, e = .returned v ∧ v = .string r ∧ Own I w' (F)
theorem octet_Text.ok (k : Nat) : octet_Text.C k := by
  intro x0 F I w r hG S H
  have hI := IMem.le.refl I
  rw [octet_Text.f] at H
  refine Calls.ofFW (args := [.int .i64 x0]) Tryd.func42 rfl rfl ?_
  refine FW.seq ?_
  refine FW.region ?_
  refine U rfl rfl (V (x_asgV (v := .string (⟨#[]⟩)) rfl) ?_)
  refine FW.seq ?_
  refine FW.region ?_
  refine U rfl rfl (V (x_movV (v := .int .i64 x0) rfl) ?_)
  refine U rfl rfl (V (x_conv tint102 tint_3 rfl) ?_)
  refine U rfl rfl (V (x_asgV (v := .int .u64 (u64 x0)) rfl) ?_)
  refine FW.seq ?_
  refine FW.seq ?_
  refine FW.region ?_
  refine U rfl rfl (V (x_movV (v := .int .i64 x0) rfl) ?_)
  refine U rfl rfl (V (x_bin rfl rfl rfl) ?_)
  obtain ⟨o3, H, HO4⟩ := obx H
  have hL5 := IMem.le.refl I
  refine FW.cutN (fun σ w => ∃ (n2 : Int) (J1 : IMem), n2 = o3 ∧ Has σ [(0, .int .i64 x0), (3, .int .u64 n2)] ∧ I.le J1 ∧ Own J1 w (F)) ?_ ?_
  ·
    by_cases cc6 : x0 < 0
    · rw [if_pos cc6] at H
      refine FW.condT rfl (deT cc6) ?_
      refine FW.region ?_
      refine U rfl rfl (V (x_movV (v := .int .u64 (u64 x0)) rfl) ?_)
      refine U rfl rfl (V (x_neg rfl) ?_)
      refine U rfl rfl (V (x_asgV (v := .int .u64 (u64 (0 - (u64 x0)))) rfl) ?_)
      exact ⟨(u64 (0 - (u64 x0))), I, (Option.some.inj H), ⟨rfl, rfl, trivial⟩, hL5, S⟩
    · rw [if_neg cc6] at H
      refine FW.condF rfl (deF cc6) ?_
      refine FW.skip ?_
      exact ⟨(u64 x0), I, (Option.some.inj H), ⟨rfl, rfl, trivial⟩, hL5, S⟩
  · rintro σ w ⟨n2, J1, ho, hσ, hL5, S⟩
    subst ho
    have H := HO4
    have hI := hI.trans hL5
    have hG := hG.mono hL5
    rw [hσ.eq]
    refine FW.seq ?_
    refine FW.region ?_
    refine U rfl rfl (V (x_bldA tar103 tz103 rfl PC.nil rfl) ?_)
    refine U rfl rfl (o_all tz103 S fun b7 w S => ?_)
    refine U rfl rfl (o_stA tag103 S 0 rfl rfl rfl rfl (c1 rfl (c1 rfl (c1 rfl (c1 rfl (c1 rfl (c1 rfl (c1 rfl (c1 rfl (c1 rfl (c1 rfl (c1 rfl (c1 rfl (c1 rfl (c1 rfl (c1 rfl (c1 rfl (c1 rfl (c1 rfl (c1 rfl (c1 rfl c0)))))))))))))))))))) rfl fun w S => ?_)
    have S := S.toAvAt 0 rfl 20 1 rfl rfl
    refine FW.seq ?_
    refine FW.region ?_
    refine U rfl rfl (V (x_asgV (v := .int .i64 20) rfl) ?_)
    refine FW.seq ?_
    refine FW.block ?_
    obtain ⟨o16, hl18, HO17⟩ := obx H
    refine FW.cutX 0 (fun σ w => ∃ (n20 : Int) (l21 : (List Int)) (a22 : List Value) (J19 : IMem), (n20, l21) = o16 ∧ Has σ [(0, .int .i64 x0), (4, .pointer (some ⟨b7, 0, none⟩)), (5, .int .i64 n20)] ∧ J1.le J19 ∧ Own J19 w (.av (.slice (some ⟨b7, 0, none⟩) 20 20) 103 1 a22 :: F) ∧ Flat (tInt' .u8) J19 a22 l21) ?_ ?_
    ·
      refine FW.loop k (FL.ind (fun q σ w => ∃ (n9 : Int) (n10 : Int) (l11 : (List Int)) (a12 : List Value) (J8 : IMem), octet_Text.l0 q n9 n10 l11 = some o16 ∧ q ≤ k ∧ Has σ [(0, .int .i64 x0), (3, .int .u64 n9), (4, .pointer (some ⟨b7, 0, none⟩)), (5, .int .i64 n10)] ∧ J1.le J8 ∧ Own J8 w (.av (.slice (some ⟨b7, 0, none⟩) 20 20) 103 1 a12 :: F) ∧ Flat (tInt' .u8) J8 a12 l11) ?_ ?_ k k _ _ (Nat.le_refl _) ⟨n2, 20, [0, 0, 0, 0, 0, 0, 0, 0, 0, 0, 0, 0, 0, 0, 0, 0, 0, 0, 0, 0], ([0, 0, 0, 0, 0, 0, 0, 0, 0, 0, 0, 0, 0, 0, 0, 0, 0, 0, 0, 0].map (Value.int .u8)), J1, hl18, Nat.le_refl _, ⟨rfl, rfl, rfl, rfl, trivial⟩, (IMem.le.refl _), S, (flatI .u8 _ [0, 0, 0, 0, 0, 0, 0, 0, 0, 0, 0, 0, 0, 0, 0, 0, 0, 0, 0, 0])⟩)
      · rintro σ w ⟨n9, n10, l11, a12, J8, H, _⟩; cases H
      · rintro q14 σ w ⟨n9, n10, l11, a12, J8, H, hq24, hσ, hL15, S, h13⟩
        have hI := hI.trans hL15
        have hG := hG.mono hL15
        rw [hσ.eq]
        rw [octet_Text.l0] at H
        refine FW.block ?_
        refine FW.seq ?_
        refine FW.region ?_
        refine U rfl rfl (V (x_movV (v := .int .i64 n10) rfl) ?_)
        refine U rfl rfl (V (x_bin rfl rfl rfl) ?_)
        refine U rfl rfl (V (x_asgV (v := .int .i64 (i64 (n10 - 1))) rfl) ?_)
        refine FW.seq ?_
        refine FW.region ?_
        refine U rfl rfl (V (x_movV (v := .int .i64 (i64 (n10 - 1))) rfl) ?_)
        refine U rfl rfl (V (x_movV (v := .int .u64 n9) rfl) ?_)
        refine U rfl rfl (V (x_rem rfl rfl (by decide)) ?_)
        obtain ⟨y25, h26, H⟩ := obx H
        refine U rfl rfl (o_iaG tar101 rfl hG.g0 rfl rfl rfl h26 fun o27 hg28 => ?_)
        refine U rfl rfl (V (x_ld tsc5 rfl (S.cell _ _ _ hg28)) ?_)
        obtain ⟨y29, h30, H⟩ := obx H
        obtain ⟨h31, h32, cc33, hr34, hc35⟩ := aa_at (r := (tInt' .u8)) S 0 rfl h13 rfl rfl h30
        refine U rfl rfl (V (x_iaA0 tar103 rfl rfl h31 h32) ?_)
        obtain rfl := hr34
        refine U rfl rfl (o_stV (r := (tInt' .u8)) (f := 0) (y' := y25) tone5 rfl S 0 rfl rfl h13 h30 rfl hc35 rfl rfl rfl rfl rfl fun w a36 S h37 => ?_)
        refine FW.seq ?_
        refine FW.anew [(0, .int .i64 x0), (3, .int .u64 n9), (4, .pointer (some ⟨b7, 0, none⟩)), (5, .int .i64 (i64 (n10 - 1)))] ⟨rfl, rfl, rfl, rfl, trivial⟩ fun σ => ?_
        refine FW.region ?_
        refine U rfl rfl (V (x_movV (v := .int .u64 n9) rfl) ?_)
        refine U rfl rfl (V (x_quo rfl rfl (by decide)) ?_)
        refine U rfl rfl (V (x_asgV (v := .int .u64 (u64 (n9.tdiv 10))) rfl) ?_)
        refine FW.seq ?_
        refine FW.region ?_
        refine U rfl rfl (V (x_movV (v := .int .u64 (u64 (n9.tdiv 10))) rfl) ?_)
        refine U rfl rfl (V (x_bin rfl rfl rfl) ?_)
        by_cases cc38 : (u64 (n9.tdiv 10)) = 0
        · rw [if_pos cc38] at H
          refine FW.condT rfl (eqT cc38) ?_
          refine FW.exit ?_
          exact ⟨(i64 (n10 - 1)), (l11.set (i64 (n10 - 1)).toNat y25), a36, J8, (Option.some.inj H), ⟨rfl, rfl, rfl, trivial⟩, hL15, S, h37⟩
        · rw [if_neg cc38] at H
          refine FW.condF rfl (eqF cc38) ?_
          refine FW.skip ?_
          exact ⟨q14, Nat.le_refl _, (u64 (n9.tdiv 10)), (i64 (n10 - 1)), (l11.set (i64 (n10 - 1)).toNat y25), a36, J8, H, (Nat.le_of_succ_le hq24), ⟨rfl, rfl, rfl, rfl, trivial⟩, hL15, S, h37⟩
    · rintro σ w ⟨n20, l21, a22, J19, ho, hσ, hL15, S, h23⟩
      subst ho
      have H := HO17
      try dsimp only at H
      have hI := hI.trans hL15
      have hG := hG.mono hL15
      rw [hσ.eq]
      refine FW.seq ?_
      refine FW.seq ?_
      refine FW.region ?_
      refine U rfl rfl (V (x_movV (v := .int .i64 x0) rfl) ?_)
      refine U rfl rfl (V (x_bin rfl rfl rfl) ?_)
      by_cases cc39 : x0 < 0
      · rw [if_pos cc39] at H
        refine FW.condT rfl (deT cc39) ?_
        refine FW.seq ?_
        refine FW.region ?_
        refine U rfl rfl (V (x_movV (v := .int .i64 n20) rfl) ?_)
        obtain ⟨J41, hJ43, S, h42⟩ := S.freeze (r := (tInt' .u8)) (l := l21) 0 rfl h23 rfl rfl
        have hI := hI.trans hJ43
        have hG := hG.mono hJ43
        obtain ⟨l44, h40, H⟩ := obx H
        refine U rfl rfl (o_cutAL (r := (tInt' .u8)) tar103 rfl h42 rfl rfl h40 fun v45 h46 => ?_)
        refine U rfl rfl (V (x_bts tbs93_9 S.cell h46) ?_)
        obtain ⟨s47, h48, H⟩ := obx H
        refine U rfl rfl (V (x_catD rfl rfl h48) ?_)
        refine U rfl rfl (V (x_asgV (v := .string s47) rfl) ?_)
        refine FW.ret ?_
        obtain rfl := Option.some.inj H
        exact ⟨_, ⟨_, rfl, rfl⟩, ⟨rfl, ((S.sel 1 [] rfl).weaken hI)⟩⟩
      · rw [if_neg cc39] at H
        refine FW.condF rfl (deF cc39) ?_
        refine FW.skip ?_
        refine FW.seq ?_
        refine FW.region ?_
        refine U rfl rfl (V (x_movV (v := .int .i64 n20) rfl) ?_)
        obtain ⟨J50, hJ52, S, h51⟩ := S.freeze (r := (tInt' .u8)) (l := l21) 0 rfl h23 rfl rfl
        have hI := hI.trans hJ52
        have hG := hG.mono hJ52
        obtain ⟨l53, h49, H⟩ := obx H
        refine U rfl rfl (o_cutAL (r := (tInt' .u8)) tar103 rfl h51 rfl rfl h49 fun v54 h55 => ?_)
        refine U rfl rfl (V (x_bts tbs93_9 S.cell h55) ?_)
        refine U rfl rfl (V (x_asgV (v := .string (ofB l53)) rfl) ?_)
        refine FW.ret ?_
        obtain rfl := Option.some.inj H
        exact ⟨_, ⟨_, rfl, rfl⟩, ⟨rfl, ((S.sel 1 [] rfl).weaken hI)⟩⟩

def regex_members.l0 : Nat → (List T_regex_span) → (List ByteArray) → Int → Option (List ByteArray)
  | 0, _, _, _ => none
  | k + 1, x0, l3, n6 => (if n6 < (x0.length : Int) then ((lat x0 n6).bind fun y18 => ((octet_Text.f k (i64 y18.from_)).bind fun y26 => (if y18.to_ = y18.from_ then ((app 16 l3 [y26]).bind fun l33 => (regex_members.l0 k x0 l33 (i64 (n6 + 1)))) else ((octet_Text.f k (i64 y18.to_)).bind fun y39 => ((scat (⟨#[45]⟩) y39).bind fun s41 => ((scat y26 s41).bind fun s43 => ((app 16 l3 [s43]).bind fun l49 => (regex_members.l0 k x0 l49 (i64 (n6 + 1)))))))))) else (some l3))
def regex_members.f (k : Nat) (x0 : (List T_regex_span)) : Option ByteArray := ((regex_members.l0 k x0 [] 0).bind fun l13 => ((strings_Join.f k l13 (⟨#[32]⟩)).bind fun y55 => (some y55)))
abbrev regex_members.C (k : Nat) : Prop := ∀ {x0 : (List T_regex_span)} {vx0 : Value} {F : List It} {I : IMem} {w : World} {r : ByteArray}, Glob I → Own I w (F) → SlR R_regex_span I vx0 x0 → regex_members.f k x0 = some r →
    Calls Tryd.prog 46 #[vx0] w fun e w' => ∃ v, e = .returned v ∧ v = .string r ∧ Own I w' (F)
theorem regex_members.ok (k : Nat) : regex_members.C k := by
  intro x0 vx0 F I w r hG S hx0 H
  have hI := IMem.le.refl I
  rw [regex_members.f] at H
  refine Calls.ofFW (args := [vx0]) Tryd.func46 rfl rfl ?_
  refine FW.seq ?_
  refine FW.region ?_
  refine U rfl rfl (V (x_asgV (v := .string (⟨#[]⟩)) rfl) ?_)
  refine FW.seq ?_
  refine FW.region ?_
  refine U rfl rfl (V (x_asgV (v := (.slice none 0 0)) rfl) ?_)
  refine FW.seq ?_
  refine FW.seq ?_
  refine FW.region ?_
  refine U rfl rfl (V (x_movV (v := vx0) rfl) ?_)
  refine U rfl rfl (V (x_lenD (r := R_regex_span) tsl46 hx0) ?_)
  refine U rfl rfl (V (x_movV (v := .int .i64 0) rfl) ?_)
  refine FW.block ?_
  have S := S.nil_tv 9 1
  obtain ⟨o9, hl11, HO10⟩ := obx H
  refine FW.cutX 0 (fun σ w => ∃ (l13 : (List ByteArray)) (v14 : Value) (J12 : IMem), l13 = o9 ∧ Has σ [(3, v14)] ∧ I.le J12 ∧ Own J12 w (.tv v14 9 1 :: F) ∧ SlR tString J12 v14 l13) ?_ ?_
  ·
    refine FW.loop k (FL.ind (fun q σ w => ∃ (l3 : (List ByteArray)) (n6 : Int) (v4 : Value) (J2 : IMem), regex_members.l0 q x0 l3 n6 = some o9 ∧ q ≤ k ∧ Has σ [(3, v4), (7, vx0), (8, .int .i64 (x0.length : Int)), (9, .int .i64 n6)] ∧ I.le J2 ∧ Own J2 w (.tv v4 9 1 :: F) ∧ SlR tString J2 v4 l3) ?_ ?_ k k _ _ (Nat.le_refl _) ⟨[], 0, (.slice none 0 0), I, hl11, Nat.le_refl _, ⟨rfl, rfl, rfl, rfl, trivial⟩, (IMem.le.refl _), S, (SlR.nil _ _)⟩)
    · rintro σ w ⟨l3, n6, v4, J2, H, _⟩; cases H
    · rintro q7 σ w ⟨l3, n6, v4, J2, H, hq16, hσ, hL8, S, h5⟩
      have hx0 := hx0.mono hL8
      have hI := hI.trans hL8
      have hG := hG.mono hL8
      rw [hσ.eq]
      rw [regex_members.l0] at H
      refine FW.seq ?_
      refine FW.region ?_
      refine U rfl rfl (V (x_bin rfl rfl rfl) ?_)
      refine FW.seq ?_
      by_cases cc17 : n6 < (x0.length : Int)
      · rw [if_pos cc17] at H
        refine FW.condT rfl (deT cc17) ?_
        refine FW.skip ?_
        refine FW.seq ?_
        refine FW.block ?_
        refine FW.seq ?_
        refine FW.region ?_
        obtain ⟨y18, h19, H⟩ := obx H
        refine U rfl rfl (o_ia (r := R_regex_span) tsl46 rfl rfl hx0 rfl h19 fun b20 o21 cs22 hr23 hc24 => ?_)
        obtain rfl := hr23
        refine U rfl rfl (V (x_ldA tag80 rfl (S.loadI hc24) rfl) ?_)
        refine U rfl rfl (o_all tz80 S fun b25 w S => ?_)
        refine U rfl rfl (o_stA tag80 S 0 rfl rfl rfl rfl (c1 rfl (c1 rfl c0)) rfl fun w S => ?_)
        refine FW.seq ?_
        refine FW.region ?_
        refine U rfl rfl (V (x_fa tf80_0 rfl) ?_)
        refine U rfl rfl (V (x_ld tsc38 rfl (S.load 0 rfl 0 rfl)) ?_)
        refine U rfl rfl (V (x_conv tint3 tint_38 rfl) ?_)
        obtain ⟨y26, hy27, H⟩ := obx H
        refine U rfl rfl (cl fb42 (@octet_Text.ok q7 (i64 y18.from_) _ _ _ _ hG S hy27) rfl ?_)
        rintro _ w ⟨rfl, S⟩
        refine U rfl rfl (V (x_asgV (v := .string y26) rfl) ?_)
        refine FW.seq ?_
        refine FW.seq ?_
        refine FW.anew [(3, v4), (5, .pointer (some ⟨b25, 0, none⟩)), (6, .string y26), (7, vx0), (8, .int .i64 (x0.length : Int)), (9, .int .i64 n6)] ⟨rfl, rfl, rfl, rfl, rfl, rfl, trivial⟩ fun σ => ?_
        refine FW.region ?_
        refine U rfl rfl (V (x_fa tf80_1 rfl) ?_)
        refine U rfl rfl (V (x_ld tsc38 rfl (S.load 0 rfl 1 rfl)) ?_)
        refine U rfl rfl (V (x_fa tf80_0 rfl) ?_)
        refine U rfl rfl (V (x_ld tsc38 rfl (S.load 0 rfl 0 rfl)) ?_)
        refine U rfl rfl (V (x_bin rfl rfl rfl) ?_)
        by_cases cc28 : y18.to_ = y18.from_
        · rw [if_pos cc28] at H
          refine FW.condF rfl (neF cc28) ?_
          refine FW.skip ?_
          refine FW.region ?_
          refine U rfl rfl (V (x_movV (v := v4) rfl) ?_)
          refine U rfl rfl (V (x_movV (v := .string y26) rfl) ?_)
          refine U rfl rfl (o_bsl tsl84 tz9 rfl rfl rfl rfl (.one rfl PC.nil) rfl S fun b29 w S => ?_)
          obtain ⟨J30, hJ32, S, h31⟩ := S.freeze (r := tString) (l := [y26]) 0 rfl ⟨[.string y26], _, rfl, rfl, rfl⟩ rfl rfl
          have h5 := h5.mono hJ32
          have hx0 := hx0.mono hJ32
          have hI := hI.trans hJ32
          have hL8 := hL8.trans hJ32
          have hG := hG.mono hJ32
          obtain ⟨l33, h35, H⟩ := obx H
          refine U rfl rfl (o_appD (r := tString) tsl84 rfl tz9 rfl rfl S 2 rfl rfl h5 h31 h35 fun v34 w J37 hJ38 S h36 => ?_)
          have h5 := h5.mono hJ38
          have hx0 := hx0.mono hJ38
          have h31 := h31.mono hJ38
          have hI := hI.trans hJ38
          have hL8 := hL8.trans hJ38
          have hG := hG.mono hJ38
          refine U rfl rfl (V (x_asgV (v := v34) rfl) ?_)
          refine FW.anew [(3, v34), (7, vx0), (8, .int .i64 (x0.length : Int)), (9, .int .i64 n6)] ⟨rfl, rfl, rfl, rfl, trivial⟩ fun σ => ?_
          refine FW.region ?_
          refine U rfl rfl (V (x_bin rfl rfl rfl) ?_)
          refine U rfl rfl (V (x_movV (v := .int .i64 (i64 (n6 + 1))) rfl) ?_)
          exact ⟨q7, Nat.le_refl _, l33, (i64 (n6 + 1)), v34, J37, H, (Nat.le_of_succ_le hq16), ⟨rfl, rfl, rfl, rfl, trivial⟩, hL8, (S.sel 3 [2] rfl), h36⟩
        · rw [if_neg cc28] at H
          refine FW.condT rfl (neT cc28) ?_
          refine FW.region ?_
          refine U rfl rfl (V (x_movV (v := .string y26) rfl) ?_)
          refine U rfl rfl (V (x_fa tf80_1 rfl) ?_)
          refine U rfl rfl (V (x_ld tsc38 rfl (S.load 0 rfl 1 rfl)) ?_)
          refine U rfl rfl (V (x_conv tint3 tint_38 rfl) ?_)
          obtain ⟨y39, hy40, H⟩ := obx H
          refine U rfl rfl (cl fb42 (@octet_Text.ok q7 (i64 y18.to_) _ _ _ _ hG S hy40) rfl ?_)
          rintro _ w ⟨rfl, S⟩
          obtain ⟨s41, h42, H⟩ := obx H
          refine U rfl rfl (V (x_catD rfl rfl h42) ?_)
          obtain ⟨s43, h44, H⟩ := obx H
          refine U rfl rfl (V (x_catD rfl rfl h44) ?_)
          refine U rfl rfl (V (x_asgV (v := .string s43) rfl) ?_)
          refine FW.anew [(3, v4), (6, .string s43), (7, vx0), (8, .int .i64 (x0.length : Int)), (9, .int .i64 n6)] ⟨rfl, rfl, rfl, rfl, rfl, trivial⟩ fun σ => ?_
          refine FW.region ?_
          refine U rfl rfl (V (x_movV (v := v4) rfl) ?_)
          refine U rfl rfl (V (x_movV (v := .string s43) rfl) ?_)
          refine U rfl rfl (o_bsl tsl84 tz9 rfl rfl rfl rfl (.one rfl PC.nil) rfl S fun b45 w S => ?_)
          obtain ⟨J46, hJ48, S, h47⟩ := S.freeze (r := tString) (l := [s43]) 0 rfl ⟨[.string s43], _, rfl, rfl, rfl⟩ rfl rfl
          have h5 := h5.mono hJ48
          have hx0 := hx0.mono hJ48
          have hI := hI.trans hJ48
          have hL8 := hL8.trans hJ48
          have hG := hG.mono hJ48
          obtain ⟨l49, h51, H⟩ := obx H
          refine U rfl rfl (o_appD (r := tString) tsl84 rfl tz9 rfl rfl S 2 rfl rfl h5 h47 h51 fun v50 w J53 hJ54 S h52 => ?_)
          have h5 := h5.mono hJ54
          have hx0 := hx0.mono hJ54
          have h47 := h47.mono hJ54
          have hI := hI.trans hJ54
          have hL8 := hL8.trans hJ54
          have hG := hG.mono hJ54
          refine U rfl rfl (V (x_asgV (v := v50) rfl) ?_)
          refine FW.region ?_
          refine U rfl rfl (V (x_bin rfl rfl rfl) ?_)
          refine U rfl rfl (V (x_movV (v := .int .i64 (i64 (n6 + 1))) rfl) ?_)
          exact ⟨q7, Nat.le_refl _, l49, (i64 (n6 + 1)), v50, J53, H, (Nat.le_of_succ_le hq16), ⟨rfl, rfl, rfl, rfl, trivial⟩, hL8, (S.sel 3 [2] rfl), h52⟩
      · rw [if_neg cc17] at H
        refine FW.condF rfl (deF cc17) ?_
        refine FW.exit ?_
        exact ⟨l3, v4, J2, (Option.some.inj H), ⟨rfl, trivial⟩, hL8, S, h5⟩
  · rintro σ w ⟨l13, v14, J12, ho, hσ, hL8, S, h15⟩
    subst ho
    have H := HO10
    have hI := hI.trans hL8
    have hG := hG.mono hL8
    rw [hσ.eq]
    refine FW.seq ?_
    refine FW.region ?_
    refine U rfl rfl (V (x_movV (v := v14) rfl) ?_)
    obtain ⟨y55, hy56, H⟩ := obx H
    refine U rfl rfl (cl fb40 (@strings_Join.ok k l13 (⟨#[32]⟩) _ _ _ _ _ hG S h15 hy56) rfl ?_)
    rintro _ w ⟨rfl, S⟩
    refine U rfl rfl (V (x_asgV (v := .string y55) rfl) ?_)
    refine FW.ret ?_
    obtain rfl := Option.some.inj H
    exact ⟨_, ⟨_, rfl, rfl⟩, ⟨rfl, ((S.sel 1 [] rfl).weaken hI)⟩⟩

mutual
def regex_texts.l0 : Nat → (List T_regex_piece) → (List ByteArray) → Int → Option (List ByteArray)
  | 0, _, _, _ => none
  | k + 1, x0, l3, n6 => (if n6 < (x0.length : Int) then ((lat x0 n6).bind fun y18 => ((regex_text.f k y18).bind fun y26 => ((app 16 l3 [y26]).bind fun l32 => (regex_texts.l0 k x0 l32 (i64 (n6 + 1)))))) else (some l3))
def regex_texts.f : Nat → (List T_regex_piece) → ByteArray → Option ByteArray
  | 0, _, _ => none
  | k + 1, x0, x1 => ((regex_texts.l0 k x0 [] 0).bind fun l13 => ((strings_Join.f k l13 x1).bind fun y38 => (some y38)))
def regex_text.f : Nat → T_regex_piece → Option ByteArray
  | 0, _ => none
  | k + 1, x0 => (if x0.kind = 0 then ((regex_texts.f k x0.parts (⟨#[32]⟩)).bind fun y3 => (some y3)) else (if x0.kind = 1 then ((regex_texts.f k x0.parts (⟨#[124]⟩)).bind fun y6 => ((scat (⟨#[40]⟩) y6).bind fun s8 => ((scat s8 (⟨#[41]⟩)).bind fun s10 => (some s10)))) else (if x0.kind = 2 then ((regex_members.f k x0.spans).bind fun y13 => (some y13)) else (if x0.kind = 3 then (some (⟨#[46]⟩)) else (if x0.kind = 5 then (some (⟨#[94]⟩)) else (if x0.kind = 6 then (some (⟨#[36]⟩)) else (if x0.kind = 7 then ((lat x0.parts 0).bind fun y19 => ((regex_text.f k y19).bind fun y26 => ((scat y26 (⟨#[42]⟩)).bind fun s28 => (some s28)))) else (if x0.kind = 8 then ((lat x0.parts 0).bind fun y31 => ((regex_text.f k y31).bind fun y38 => ((scat y38 (⟨#[43]⟩)).bind fun s40 => (some s40)))) else (if x0.kind = 9 then ((lat x0.parts 0).bind fun y43 => ((regex_text.f k y43).bind fun y50 => ((scat y50 (⟨#[63]⟩)).bind fun s52 => (some s52)))) else (if x0.not = true then ((regex_members.f k x0.spans).bind fun y55 => ((scat (⟨#[91, 94]⟩) y55).bind fun s57 => ((scat s57 (⟨#[93]⟩)).bind fun s59 => (some s59)))) else ((regex_members.f k x0.spans).bind fun y61 => ((scat (⟨#[91]⟩) y61).bind fun s63 => ((scat s63 (⟨#[93]⟩)).bind fun s65 => (some s65))))))))))))))
end
abbrev regex_texts.C (k : Nat) : Prop := ∀ {x0 : (List T_regex_piece)} {x1 : ByteArray} {vx0 : Value} {F : List It} {I : IMem} {w : World} {r : ByteArray}, Glob I → Own I w (F) → SlR R_regex_piece I vx0 x0 → regex_texts.f k x0 x1 = some r →
    Calls Tryd.prog 25 #[vx0, .string x1] w fun e w' => ∃ v, e = .returned v ∧ v = .string r ∧ Own I w' (F)
abbrev regex_text.C (k : Nat) : Prop := ∀ {x0 : T_regex_piece} {x0v1 : Value} {x0v2 : Value} {F : List It} {I : IMem} {w : World} {r : ByteArray}, Glob I → Own I w (F) → SlR R_regex_piece I x0v1 x0.parts → SlR R_regex_span I x0v2 x0.spans → regex_text.f k x0 = some r →
    Calls Tryd.prog 39 #[.agg #[.int .i64 x0.kind, x0v1, x0v2, .bool x0.not]] w fun e w' => ∃ v, e = .returned v ∧ v = .string r ∧ Own I w' (F)
theorem regex_texts.step (k : Nat) (ih_regex_text : ∀ m, m ≤ k → regex_text.C m) : regex_texts.C (k + 1) := by
  intro x0 x1 vx0 F I w r hG S hx0 H
  have hI := IMem.le.refl I
  rw [regex_texts.f] at H
  refine Calls.ofFW (args := [vx0, .string x1]) Tryd.func25 rfl rfl ?_
  refine FW.seq ?_
  refine FW.region ?_
  refine U rfl rfl (V (x_asgV (v := .string (⟨#[]⟩)) rfl) ?_)
  refine FW.seq ?_
  refine FW.region ?_
  refine U rfl rfl (V (x_asgV (v := (.slice none 0 0)) rfl) ?_)
  refine FW.seq ?_
  refine FW.seq ?_
  refine FW.region ?_
  refine U rfl rfl (V (x_movV (v := vx0) rfl) ?_)
  refine U rfl rfl (V (x_lenD (r := R_regex_piece) tsl45 hx0) ?_)
  refine U rfl rfl (V (x_movV (v := .int .i64 0) rfl) ?_)
  refine FW.block ?_
  have S := S.nil_tv 9 1
  obtain ⟨o9, hl11, HO10⟩ := obx H
  refine FW.cutX 0 (fun σ w => ∃ (l13 : (List ByteArray)) (v14 : Value) (J12 : IMem), l13 = o9 ∧ Has σ [(1, .string x1), (5, v14)] ∧ I.le J12 ∧ Own J12 w (.tv v14 9 1 :: F) ∧ SlR tString J12 v14 l13) ?_ ?_
  ·
    refine FW.loop k (FL.ind (fun q σ w => ∃ (l3 : (List ByteArray)) (n6 : Int) (v4 : Value) (J2 : IMem), regex_texts.l0 q x0 l3 n6 = some o9 ∧ q ≤ k ∧ Has σ [(1, .string x1), (5, v4), (8, vx0), (9, .int .i64 (x0.length : Int)), (10, .int .i64 n6)] ∧ I.le J2 ∧ Own J2 w (.tv v4 9 1 :: F) ∧ SlR tString J2 v4 l3) ?_ ?_ k k _ _ (Nat.le_refl _) ⟨[], 0, (.slice none 0 0), I, hl11, Nat.le_refl _, ⟨rfl, rfl, rfl, rfl, rfl, trivial⟩, (IMem.le.refl _), S, (SlR.nil _ _)⟩)
    · rintro σ w ⟨l3, n6, v4, J2, H, _⟩; cases H
    · rintro q7 σ w ⟨l3, n6, v4, J2, H, hq16, hσ, hL8, S, h5⟩
      have hx0 := hx0.mono hL8
      have hI := hI.trans hL8
      have hG := hG.mono hL8
      rw [hσ.eq]
      rw [regex_texts.l0] at H
      refine FW.seq ?_
      refine FW.region ?_
      refine U rfl rfl (V (x_bin rfl rfl rfl) ?_)
      refine FW.seq ?_
      by_cases cc17 : n6 < (x0.length : Int)
      · rw [if_pos cc17] at H
        refine FW.condT rfl (deT cc17) ?_
        refine FW.skip ?_
        refine FW.seq ?_
        refine FW.block ?_
        refine FW.seq ?_
        refine FW.region ?_
        obtain ⟨y18, h19, H⟩ := obx H
        refine U rfl rfl (o_ia (r := R_regex_piece) tsl45 rfl rfl hx0 rfl h19 fun b20 o21 cs22 hr23 hc24 => ?_)
        obtain ⟨y18v1, y18v2, rfl, y18h1, y18h2⟩ := R_regex_piece.un hr23
        refine U rfl rfl (V (x_ldA tag48 rfl (S.loadI hc24) rfl) ?_)
        refine U rfl rfl (o_all tz48 S fun b25 w S => ?_)
        refine U rfl rfl (o_stA tag48 S 0 rfl rfl rfl rfl (c1 rfl (c1 y18h1.one (c1 y18h2.one (c1 rfl c0)))) rfl fun w S => ?_)
        refine FW.region ?_
        refine U rfl rfl (V (x_movV (v := v4) rfl) ?_)
        refine U rfl rfl (V (x_ldA tag48 rfl (S.loadW 0 rfl) rfl) ?_)
        obtain ⟨y26, hy27, H⟩ := obx H
        refine U rfl rfl (cl fb39 (@ih_regex_text q7 (by omega) y18 _ _ _ _ _ _ hG S y18h1 y18h2 hy27) rfl ?_)
        rintro _ w ⟨rfl, S⟩
        refine U rfl rfl (o_bsl tsl84 tz9 rfl rfl rfl rfl (.one rfl PC.nil) rfl S fun b28 w S => ?_)
        obtain ⟨J29, hJ31, S, h30⟩ := S.freeze (r := tString) (l := [y26]) 0 rfl ⟨[.string y26], _, rfl, rfl, rfl⟩ rfl rfl
        have h5 := h5.mono hJ31
        have hx0 := hx0.mono hJ31
        have y18h1 := y18h1.mono hJ31
        have y18h2 := y18h2.mono hJ31
        have hI := hI.trans hJ31
        have hL8 := hL8.trans hJ31
        have hG := hG.mono hJ31
        obtain ⟨l32, h34, H⟩ := obx H
        refine U rfl rfl (o_appD (r := tString) tsl84 rfl tz9 rfl rfl S 2 rfl rfl h5 h30 h34 fun v33 w J36 hJ37 S h35 => ?_)
        have h5 := h5.mono hJ37
        have hx0 := hx0.mono hJ37
        have y18h1 := y18h1.mono hJ37
        have y18h2 := y18h2.mono hJ37
        have h30 := h30.mono hJ37
        have hI := hI.trans hJ37
        have hL8 := hL8.trans hJ37
        have hG := hG.mono hJ37
        refine U rfl rfl (V (x_asgV (v := v33) rfl) ?_)
        refine FW.anew [(1, .string x1), (5, v33), (8, vx0), (9, .int .i64 (x0.length : Int)), (10, .int .i64 n6)] ⟨rfl, rfl, rfl, rfl, rfl, trivial⟩ fun σ => ?_
        refine FW.region ?_
        refine U rfl rfl (V (x_bin rfl rfl rfl) ?_)
        refine U rfl rfl (V (x_movV (v := .int .i64 (i64 (n6 + 1))) rfl) ?_)
        exact ⟨q7, Nat.le_refl _, l32, (i64 (n6 + 1)), v33, J36, H, (Nat.le_of_succ_le hq16), ⟨rfl, rfl, rfl, rfl, rfl, trivial⟩, hL8, (S.sel 3 [2] rfl), h35⟩
      · rw [if_neg cc17] at H
        refine FW.condF rfl (deF cc17) ?_
        refine FW.exit ?_
        exact ⟨l3, v4, J2, (Option.some.inj H), ⟨rfl, rfl, trivial⟩, hL8, S, h5⟩
  · rintro σ w ⟨l13, v14, J12, ho, hσ, hL8, S, h15⟩
    subst ho
    have H := HO10
    have hI := hI.trans hL8
    have hG := hG.mono hL8
    rw [hσ.eq]
    refine FW.seq ?_
    refine FW.region ?_
    refine U rfl rfl (V (x_movV (v := v14) rfl) ?_)
    refine U rfl rfl (V (x_movV (v := .string x1) rfl) ?_)
    obtain ⟨y38, hy39, H⟩ := obx H
    refine U rfl rfl (cl fb40 (@strings_Join.ok k l13 x1 _ _ _ _ _ hG S h15 hy39) rfl ?_)
    rintro _ w ⟨rfl, S⟩
    refine U rfl rfl (V (x_asgV (v := .string y38) rfl) ?_)
    refine FW.ret ?_
    obtain rfl := Option.some.inj H
    exact ⟨_, ⟨_, rfl, rfl⟩, ⟨rfl, ((S.sel 1 [] rfl).weaken hI)⟩⟩
theorem regex_texts.zero : regex_texts.C 0 := by
  intro _ _ _ _ _ _ _ _ _ _ H; cases H
theorem regex_text.step (k : Nat) (ih_regex_texts : ∀ m, m ≤ k → regex_texts.C m) (ih_regex_text : ∀ m, m ≤ k → regex_text.C m) : regex_text.C (k + 1) := by
  intro x0 x0v1 x0v2 F I w r hG S x0h1 x0h2 H
  have hI := IMem.le.refl I
  rw [regex_text.f] at H
  refine Calls.ofFW (args := [.agg #[.int .i64 x0.kind, x0v1, x0v2, .bool x0.not]]) Tryd.func39 rfl rfl ?_
  refine FW.seq ?_
  refine FW.region ?_
  refine U rfl rfl (o_boxA rfl S fun b1 w S => ?_)
  refine U rfl rfl (V (x_asgV (v := .string (⟨#[]⟩)) rfl) ?_)
  refine FW.seq ?_
  refine FW.seq ?_
  refine FW.region ?_
  refine U rfl rfl (V (x_fa tf48_0 rfl) ?_)
  refine U rfl rfl (V (x_ld tsc3 rfl (S.load 0 rfl 0 rfl)) ?_)
  refine FW.block ?_
  refine FW.seq ?_
  refine FW.region ?_
  refine U rfl rfl (V (x_bin rfl rfl rfl) ?_)
  refine U rfl rfl (V (x_asgV (v := .bool (x0.kind == 0)) rfl) ?_)
  by_cases cc2 : x0.kind = 0
  · rw [if_pos cc2] at H
    refine FW.condT rfl (eqT cc2) ?_
    refine FW.seq ?_
    refine FW.region ?_
    refine U rfl rfl (V (x_fa tf48_1 rfl) ?_)
    refine U rfl rfl (V (x_ld tsc45 rfl (S.load 0 rfl 1 rfl)) ?_)
    obtain ⟨y3, hy4, H⟩ := obx H
    refine U rfl rfl (cl fb25 (@ih_regex_texts k (by omega) x0.parts (⟨#[32]⟩) _ _ _ _ _ hG S x0h1 hy4) rfl ?_)
    rintro _ w ⟨rfl, S⟩
    refine U rfl rfl (V (x_asgV (v := .string y3) rfl) ?_)
    refine FW.ret ?_
    obtain rfl := Option.some.inj H
    exact ⟨_, ⟨_, rfl, rfl⟩, ⟨rfl, ((S.sel 1 [] rfl).weaken hI)⟩⟩
  · rw [if_neg cc2] at H
    refine FW.condF rfl (eqF cc2) ?_
    refine FW.seq ?_
    refine FW.region ?_
    refine U rfl rfl (V (x_bin rfl rfl rfl) ?_)
    refine U rfl rfl (V (x_asgV (v := .bool (x0.kind == 1)) rfl) ?_)
    by_cases cc5 : x0.kind = 1
    · rw [if_pos cc5] at H
      refine FW.condT rfl (eqT cc5) ?_
      refine FW.seq ?_
      refine FW.anew [(1, .pointer (some ⟨b1, 0, none⟩))] ⟨rfl, trivial⟩ fun σ => ?_
      refine FW.region ?_
      refine U rfl rfl (V (x_fa tf48_1 rfl) ?_)
      refine U rfl rfl (V (x_ld tsc45 rfl (S.load 0 rfl 1 rfl)) ?_)
      obtain ⟨y6, hy7, H⟩ := obx H
      refine U rfl rfl (cl fb25 (@ih_regex_texts k (by omega) x0.parts (⟨#[124]⟩) _ _ _ _ _ hG S x0h1 hy7) rfl ?_)
      rintro _ w ⟨rfl, S⟩
      obtain ⟨s8, h9, H⟩ := obx H
      refine U rfl rfl (V (x_catD rfl rfl h9) ?_)
      obtain ⟨s10, h11, H⟩ := obx H
      refine U rfl rfl (V (x_catD rfl rfl h11) ?_)
      refine U rfl rfl (V (x_asgV (v := .string s10) rfl) ?_)
      refine FW.ret ?_
      obtain rfl := Option.some.inj H
      exact ⟨_, ⟨_, rfl, rfl⟩, ⟨rfl, ((S.sel 1 [] rfl).weaken hI)⟩⟩
    · rw [if_neg cc5] at H
      refine FW.condF rfl (eqF cc5) ?_
      refine FW.seq ?_
      refine FW.anew [(1, .pointer (some ⟨b1, 0, none⟩)), (4, .int .i64 x0.kind)] ⟨rfl, rfl, trivial⟩ fun σ => ?_
      refine FW.region ?_
      refine U rfl rfl (V (x_bin rfl rfl rfl) ?_)
      refine U rfl rfl (V (x_asgV (v := .bool (x0.kind == 2)) rfl) ?_)
      by_cases cc12 : x0.kind = 2
      · rw [if_pos cc12] at H
        refine FW.condT rfl (eqT cc12) ?_
        refine FW.seq ?_
        refine FW.region ?_
        refine U rfl rfl (V (x_fa tf48_2 rfl) ?_)
        refine U rfl rfl (V (x_ld tsc46 rfl (S.load 0 rfl 2 rfl)) ?_)
        obtain ⟨y13, hy14, H⟩ := obx H
        refine U rfl rfl (cl fb46 (@regex_members.ok k x0.spans _ _ _ _ _ hG S x0h2 hy14) rfl ?_)
        rintro _ w ⟨rfl, S⟩
        refine U rfl rfl (V (x_asgV (v := .string y13) rfl) ?_)
        refine FW.ret ?_
        obtain rfl := Option.some.inj H
        exact ⟨_, ⟨_, rfl, rfl⟩, ⟨rfl, ((S.sel 1 [] rfl).weaken hI)⟩⟩
      · rw [if_neg cc12] at H
        refine FW.condF rfl (eqF cc12) ?_
        refine FW.seq ?_
        refine FW.region ?_
        refine U rfl rfl (V (x_bin rfl rfl rfl) ?_)
        refine U rfl rfl (V (x_asgV (v := .bool (x0.kind == 3)) rfl) ?_)
        by_cases cc15 : x0.kind = 3
        · rw [if_pos cc15] at H
          refine FW.condT rfl (eqT cc15) ?_
          refine FW.seq ?_
          refine FW.region ?_
          refine U rfl rfl (V (x_asgV (v := .string (⟨#[46]⟩)) rfl) ?_)
          refine FW.ret ?_
          obtain rfl := Option.some.inj H
          exact ⟨_, ⟨_, rfl, rfl⟩, ⟨rfl, ((S.sel 1 [] rfl).weaken hI)⟩⟩
        · rw [if_neg cc15] at H
          refine FW.condF rfl (eqF cc15) ?_
          refine FW.seq ?_
          refine FW.region ?_
          refine U rfl rfl (V (x_bin rfl rfl rfl) ?_)
          refine U rfl rfl (V (x_asgV (v := .bool (x0.kind == 5)) rfl) ?_)
          by_cases cc16 : x0.kind = 5
          · rw [if_pos cc16] at H
            refine FW.condT rfl (eqT cc16) ?_
            refine FW.seq ?_
            refine FW.region ?_
            refine U rfl rfl (V (x_asgV (v := .string (⟨#[94]⟩)) rfl) ?_)
            refine FW.ret ?_
            obtain rfl := Option.some.inj H
            exact ⟨_, ⟨_, rfl, rfl⟩, ⟨rfl, ((S.sel 1 [] rfl).weaken hI)⟩⟩
          · rw [if_neg cc16] at H
            refine FW.condF rfl (eqF cc16) ?_
            refine FW.seq ?_
            refine FW.region ?_
            refine U rfl rfl (V (x_bin rfl rfl rfl) ?_)
            refine U rfl rfl (V (x_asgV (v := .bool (x0.kind == 6)) rfl) ?_)
            by_cases cc17 : x0.kind = 6
            · rw [if_pos cc17] at H
              refine FW.condT rfl (eqT cc17) ?_
              refine FW.seq ?_
              refine FW.anew [] trivial fun σ => ?_
              refine FW.region ?_
              refine U rfl rfl (V (x_asgV (v := .string (⟨#[36]⟩)) rfl) ?_)
              refine FW.ret ?_
              obtain rfl := Option.some.inj H
              exact ⟨_, ⟨_, rfl, rfl⟩, ⟨rfl, ((S.sel 1 [] rfl).weaken hI)⟩⟩
            · rw [if_neg cc17] at H
              refine FW.condF rfl (eqF cc17) ?_
              refine FW.seq ?_
              refine FW.anew [(1, .pointer (some ⟨b1, 0, none⟩)), (4, .int .i64 x0.kind)] ⟨rfl, rfl, trivial⟩ fun σ => ?_
              refine FW.region ?_
              refine U rfl rfl (V (x_bin rfl rfl rfl) ?_)
              refine U rfl rfl (V (x_asgV (v := .bool (x0.kind == 7)) rfl) ?_)
              by_cases cc18 : x0.kind = 7
              · rw [if_pos cc18] at H
                refine FW.condT rfl (eqT cc18) ?_
                refine FW.seq ?_
                refine FW.region ?_
                refine U rfl rfl (V (x_fa tf48_1 rfl) ?_)
                refine U rfl rfl (V (x_ld tsc45 rfl (S.load 0 rfl 1 rfl)) ?_)
                obtain ⟨y19, h20, H⟩ := obx H
                refine U rfl rfl (o_ia (r := R_regex_piece) tsl45 rfl rfl x0h1 rfl h20 fun b21 o22 cs23 hr24 hc25 => ?_)
                obtain ⟨y19v1, y19v2, rfl, y19h1, y19h2⟩ := R_regex_piece.un hr24
                refine U rfl rfl (V (x_ldA tag48 rfl (S.loadI hc25) rfl) ?_)
                obtain ⟨y26, hy27, H⟩ := obx H
                refine U rfl rfl (cl fb39 (@ih_regex_text k (by omega) y19 _ _ _ _ _ _ hG S y19h1 y19h2 hy27) rfl ?_)
                rintro _ w ⟨rfl, S⟩
                obtain ⟨s28, h29, H⟩ := obx H
                refine U rfl rfl (V (x_catD rfl rfl h29) ?_)
                refine U rfl rfl (V (x_asgV (v := .string s28) rfl) ?_)
                refine FW.ret ?_
                obtain rfl := Option.some.inj H
                exact ⟨_, ⟨_, rfl, rfl⟩, ⟨rfl, ((S.sel 1 [] rfl).weaken hI)⟩⟩
              · rw [if_neg cc18] at H
                refine FW.condF rfl (eqF cc18) ?_
                refine FW.seq ?_
                refine FW.region ?_
                refine U rfl rfl (V (x_bin rfl rfl rfl) ?_)
                refine U rfl rfl (V (x_asgV (v := .bool (x0.kind == 8)) rfl) ?_)
                by_cases cc30 : x0.kind = 8
                · rw [if_pos cc30] at H
                  refine FW.condT rfl (eqT cc30) ?_
                  refine FW.seq ?_
                  refine FW.region ?_
                  refine U rfl rfl (V (x_fa tf48_1 rfl) ?_)
                  refine U rfl rfl (V (x_ld tsc45 rfl (S.load 0 rfl 1 rfl)) ?_)
                  obtain ⟨y31, h32, H⟩ := obx H
                  refine U rfl rfl (o_ia (r := R_regex_piece) tsl45 rfl rfl x0h1 rfl h32 fun b33 o34 cs35 hr36 hc37 => ?_)
                  obtain ⟨y31v1, y31v2, rfl, y31h1, y31h2⟩ := R_regex_piece.un hr36
                  refine U rfl rfl (V (x_ldA tag48 rfl (S.loadI hc37) rfl) ?_)
                  obtain ⟨y38, hy39, H⟩ := obx H
                  refine U rfl rfl (cl fb39 (@ih_regex_text k (by omega) y31 _ _ _ _ _ _ hG S y31h1 y31h2 hy39) rfl ?_)
                  rintro _ w ⟨rfl, S⟩
                  obtain ⟨s40, h41, H⟩ := obx H
                  refine U rfl rfl (V (x_catD rfl rfl h41) ?_)
                  refine U rfl rfl (V (x_asgV (v := .string s40) rfl) ?_)
                  refine FW.ret ?_
                  obtain rfl := Option.some.inj H
                  exact ⟨_, ⟨_, rfl, rfl⟩, ⟨rfl, ((S.sel 1 [] rfl).weaken hI)⟩⟩
                · rw [if_neg cc30] at H
                  refine FW.condF rfl (eqF cc30) ?_
                  refine FW.seq ?_
                  refine FW.region ?_
                  refine U rfl rfl (V (x_bin rfl rfl rfl) ?_)
                  refine U rfl rfl (V (x_asgV (v := .bool (x0.kind == 9)) rfl) ?_)
                  by_cases cc42 : x0.kind = 9
                  · rw [if_pos cc42] at H
                    refine FW.condT rfl (eqT cc42) ?_
                    refine FW.seq ?_
                    refine FW.region ?_
                    refine U rfl rfl (V (x_fa tf48_1 rfl) ?_)
                    refine U rfl rfl (V (x_ld tsc45 rfl (S.load 0 rfl 1 rfl)) ?_)
                    obtain ⟨y43, h44, H⟩ := obx H
                    refine U rfl rfl (o_ia (r := R_regex_piece) tsl45 rfl rfl x0h1 rfl h44 fun b45 o46 cs47 hr48 hc49 => ?_)
                    obtain ⟨y43v1, y43v2, rfl, y43h1, y43h2⟩ := R_regex_piece.un hr48
                    refine U rfl rfl (V (x_ldA tag48 rfl (S.loadI hc49) rfl) ?_)
                    obtain ⟨y50, hy51, H⟩ := obx H
                    refine U rfl rfl (cl fb39 (@ih_regex_text k (by omega) y43 _ _ _ _ _ _ hG S y43h1 y43h2 hy51) rfl ?_)
                    rintro _ w ⟨rfl, S⟩
                    obtain ⟨s52, h53, H⟩ := obx H
                    refine U rfl rfl (V (x_catD rfl rfl h53) ?_)
                    refine U rfl rfl (V (x_asgV (v := .string s52) rfl) ?_)
                    refine FW.ret ?_
                    obtain rfl := Option.some.inj H
                    exact ⟨_, ⟨_, rfl, rfl⟩, ⟨rfl, ((S.sel 1 [] rfl).weaken hI)⟩⟩
                  · rw [if_neg cc42] at H
                    refine FW.condF rfl (eqF cc42) ?_
                    refine FW.skip ?_
                    refine FW.seq ?_
                    refine FW.seq ?_
                    refine FW.region ?_
                    refine U rfl rfl (V (x_fa tf48_3 rfl) ?_)
                    refine U rfl rfl (V (x_ld tsc4 rfl (S.load 0 rfl 3 rfl)) ?_)
                    by_cases cc54 : x0.not = true
                    · rw [if_pos cc54] at H
                      refine FW.condT rfl cc54 ?_
                      refine FW.seq ?_
                      refine FW.anew [(1, .pointer (some ⟨b1, 0, none⟩))] ⟨rfl, trivial⟩ fun σ => ?_
                      refine FW.region ?_
                      refine U rfl rfl (V (x_fa tf48_2 rfl) ?_)
                      refine U rfl rfl (V (x_ld tsc46 rfl (S.load 0 rfl 2 rfl)) ?_)
                      obtain ⟨y55, hy56, H⟩ := obx H
                      refine U rfl rfl (cl fb46 (@regex_members.ok k x0.spans _ _ _ _ _ hG S x0h2 hy56) rfl ?_)
                      rintro _ w ⟨rfl, S⟩
                      obtain ⟨s57, h58, H⟩ := obx H
                      refine U rfl rfl (V (x_catD rfl rfl h58) ?_)
                      obtain ⟨s59, h60, H⟩ := obx H
                      refine U rfl rfl (V (x_catD rfl rfl h60) ?_)
                      refine U rfl rfl (V (x_asgV (v := .string s59) rfl) ?_)
                      refine FW.ret ?_
                      obtain rfl := Option.some.inj H
                      exact ⟨_, ⟨_, rfl, rfl⟩, ⟨rfl, ((S.sel 1 [] rfl).weaken hI)⟩⟩
                    · rw [if_neg cc54] at H
                      refine FW.condF rfl (vaF cc54) ?_
                      refine FW.skip ?_
                      refine FW.seq ?_
                      refine FW.anew [(1, .pointer (some ⟨b1, 0, none⟩))] ⟨rfl, trivial⟩ fun σ => ?_
                      refine FW.region ?_
                      refine U rfl rfl (V (x_fa tf48_2 rfl) ?_)
                      refine U rfl rfl (V (x_ld tsc46 rfl (S.load 0 rfl 2 rfl)) ?_)
                      obtain ⟨y61, hy62, H⟩ := obx H
                      refine U rfl rfl (cl fb46 (@regex_members.ok k x0.spans _ _ _ _ _ hG S x0h2 hy62) rfl ?_)
                      rintro _ w ⟨rfl, S⟩
                      obtain ⟨s63, h64, H⟩ := obx H
                      refine U rfl rfl (V (x_catD rfl rfl h64) ?_)
                      obtain ⟨s65, h66, H⟩ := obx H
                      refine U rfl rfl (V (x_catD rfl rfl h66) ?_)
                      refine U rfl rfl (V (x_asgV (v := .string s65) rfl) ?_)
                      refine FW.ret ?_
                      obtain rfl := Option.some.inj H
                      exact ⟨_, ⟨_, rfl, rfl⟩, ⟨rfl, ((S.sel 1 [] rfl).weaken hI)⟩⟩
theorem regex_text.zero : regex_text.C 0 := by
  intro _ _ _ _ _ _ _ _ _ _ _ H; cases H
theorem regex_texts.grp : ∀ k m, m ≤ k → regex_texts.C m ∧ regex_text.C m
  | 0, m, h => by
    obtain rfl : m = 0 := by omega
    exact ⟨regex_texts.zero, regex_text.zero⟩
  | k + 1, 0, _ => ⟨regex_texts.zero, regex_text.zero⟩
  | k + 1, m + 1, h => ⟨regex_texts.step m (fun i hi => (regex_texts.grp k i (by omega)).2), regex_text.step m (fun i hi => (regex_texts.grp k i (by omega)).1) (fun i hi => (regex_texts.grp k i (by omega)).2)⟩
theorem regex_texts.ok (k : Nat) : regex_texts.C k := (regex_texts.grp k k (Nat.le_refl k)).1
theorem regex_text.ok (k : Nat) : regex_text.C k := (regex_texts.grp k k (Nat.le_refl k)).2

def regex_Expr_Text.f (k : Nat) (x0 : (Option T_regex_Expr)) : Option ByteArray := (if x0.isNone = true then (some (⟨#[]⟩)) else ((x0).bind fun y2 => ((regex_texts.f k y2.top.parts (⟨#[124]⟩)).bind fun y10 => (some y10))))
abbrev regex_Expr_Text.C (k : Nat) : Prop := ∀ {x0 : (Option T_regex_Expr)} {vx0 : Value} {F : List It} {I : IMem} {w : World} {r : ByteArray}, Glob I → Own I w (F) → PtR R_regex_Expr I vx0 x0 → regex_Expr_Text.f k x0 = some r →
    Calls Tryd.prog 15 #[vx0] w fun e w' => ∃ v, e = .returned v ∧ v = .string r ∧ Own I w' (F)
theorem regex_Expr_Text.ok (k : Nat) : regex_Expr_Text.C k := by
  intro x0 vx0 F I w r hG S hx0 H
  have hI := IMem.le.refl I
  rw [regex_Expr_Text.f] at H
  refine Calls.ofFW (args := [vx0]) Tryd.func15 rfl rfl ?_
  refine FW.seq ?_
  refine FW.region ?_
  refine U rfl rfl (V (x_asgV (v := .string (⟨#[]⟩)) rfl) ?_)
  refine FW.seq ?_
  refine FW.seq ?_
  refine FW.region ?_
  refine U rfl rfl (V (x_movV (v := vx0) rfl) ?_)
  refine U rfl rfl (V (x_onil (r := R_regex_Expr) tptr24 hx0 rfl) ?_)
  by_cases cc1 : x0.isNone = true
  · rw [if_pos cc1] at H
    refine FW.condT rfl cc1 ?_
    refine FW.seq ?_
    refine FW.region ?_
    refine U rfl rfl (V (x_asgV (v := .string (⟨#[]⟩)) rfl) ?_)
    refine FW.ret ?_
    obtain rfl := Option.some.inj H
    exact ⟨_, ⟨_, rfl, rfl⟩, ⟨rfl, (S.weaken hI)⟩⟩
  · rw [if_neg cc1] at H
    refine FW.condF rfl (vaF cc1) ?_
    refine FW.skip ?_
    refine FW.seq ?_
    refine FW.region ?_
    refine U rfl rfl (V (x_movV (v := vx0) rfl) ?_)
    obtain ⟨y2, hy3, H⟩ := obx H
    obtain ⟨b4, o5, cs6, hv7, hr8, hc9⟩ := hx0.some hy3
    obtain ⟨y2v1, y2v2, y2v4, rfl, y2h1, y2h2, y2h4⟩ := hr8
    refine U rfl rfl (V (x_nk hv7) ?_)
    refine U rfl rfl (V (x_fa tf55_0 rfl) ?_)
    refine U rfl rfl (V (x_fa tf48_1 rfl) ?_)
    refine U rfl rfl (V (x_ld tsc45 rfl (S.cell _ _ _ (hc9 1 _ rfl))) ?_)
    obtain ⟨y10, hy11, H⟩ := obx H
    refine U rfl rfl (cl fb25 (@regex_texts.ok k y2.top.parts (⟨#[124]⟩) _ _ _ _ _ hG S y2h1 hy11) rfl ?_)
    rintro _ w ⟨rfl, S⟩
    refine U rfl rfl (V (x_asgV (v := .string y10) rfl) ?_)
    refine FW.ret ?_
    obtain rfl := Option.some.inj H
    exact ⟨_, ⟨_, rfl, rfl⟩, ⟨rfl, (S.weaken hI)⟩⟩

def regex_Expr_Size.f (k : Nat) (x0 : (Option T_regex_Expr)) : Option Int := ((regex_Expr_Text.f k x0).bind fun y1 => (some (y1.size : Int)))
abbrev regex_Expr_Size.C (k : Nat) : Prop := ∀ {x0 : (Option T_regex_Expr)} {vx0 : Value} {F : List It} {I : IMem} {w : World} {r : Int}, Glob I → Own I w (F) → PtR R_regex_Expr I vx0 x0 → regex_Expr_Size.f k x0 = some r →
    Calls Tryd.prog 14 #[vx0] w fun e w' => ∃ v, e = .returned v ∧ v = .int .i64 r ∧ Own I w' (F)
theorem regex_Expr_Size.ok (k : Nat) : regex_Expr_Size.C k := by
  intro x0 vx0 F I w r hG S hx0 H
  have hI := IMem.le.refl I
  rw [regex_Expr_Size.f] at H
  refine Calls.ofFW (args := [vx0]) Tryd.func14 rfl rfl ?_
  refine FW.seq ?_
  refine FW.region ?_
  refine U rfl rfl (V (x_asgV (v := .int .i64 0) rfl) ?_)
  refine FW.seq ?_
  refine FW.region ?_
  refine U rfl rfl (V (x_movV (v := vx0) rfl) ?_)
  obtain ⟨y1, hy2, H⟩ := obx H
  refine U rfl rfl (cl fb15 (@regex_Expr_Text.ok k x0 _ _ _ _ _ hG S hx0 hy2) rfl ?_)
  rintro _ w ⟨rfl, S⟩
  refine U rfl rfl (V (x_lens tstr9 rfl) ?_)
  refine U rfl rfl (V (x_asgV (v := .int .i64 (y1.size : Int)) rfl) ?_)
  refine FW.ret ?_
  obtain rfl := Option.some.inj H
  exact ⟨_, ⟨_, rfl, rfl⟩, ⟨rfl, (S.weaken hI)⟩⟩

def octet_value.l0 : Nat → Int → Int → Option (Sum Int Unit)
  | 0, _, _ => none
  | k + 1, x0, n2 => (if n2 < 16 then ((lat digs n2).bind fun y11 => (if x0 = y11 then (some (.inl (u8 n2))) else (octet_value.l0 k x0 (i64 (n2 + 1))))) else (some (.inr ())))
def octet_value.f (k : Nat) (x0 : Int) : Option Int := (((octet_value.l0 k x0 0) : Option (Sum Int Unit)).bind fun o => match o with | .inl r => some r | .inr _ => (some 16))
abbrev octet_value.C (k : Nat) : Prop := ∀ {x0 : Int} {F : List It} {I : IMem} {w : World} {r : Int}, Glob I → Own I w (F) → octet_value.f k x0 = some r →
    Calls Tryd.prog 41 #[.int .u8 x0] w fun e w' => ∃ v, e = .returned v ∧ v = .int .u8 r ∧ Own I w' (F)
theorem octet_value.ok (k : Nat) : octet_value.C k := by
  intro x0 F I w r hG S H
  have hI := IMem.le.refl I
  rw [octet_value.f] at H
  refine Calls.ofFW (args := [.int .u8 x0]) Tryd.func41 rfl rfl ?_
  refine FW.seq ?_
  refine FW.region ?_
  refine U rfl rfl (V (x_asgV (v := .int .u8 0) rfl) ?_)
  refine FW.seq ?_
  refine FW.seq ?_
  refine FW.region ?_
  refine U rfl rfl (V (x_ldA tag101 rfl (S.loadI hG.g0) rfl) ?_)
  refine U rfl rfl (V (x_movV (v := .int .i64 0) rfl) ?_)
  refine FW.block ?_
  obtain ⟨o5, hl7, HO6⟩ := obx H
  refine FW.cutX 0 (fun σ w => ∃ (J8 : IMem), (.inr ()) = o5 ∧ Has σ [] ∧ I.le J8 ∧ Own J8 w (F)) ?_ ?_
  ·
    refine FW.loop k (FL.ind (fun q σ w => ∃ (n2 : Int) (J1 : IMem), octet_value.l0 q x0 n2 = some o5 ∧ q ≤ k ∧ Has σ [(0, .int .u8 x0), (5, .agg (digs.map (Value.int .u8)).toArray), (6, .int .i64 n2)] ∧ I.le J1 ∧ Own J1 w (F)) ?_ ?_ k k _ _ (Nat.le_refl _) ⟨0, I, hl7, Nat.le_refl _, ⟨rfl, rfl, rfl, trivial⟩, (IMem.le.refl _), S⟩)
    · rintro σ w ⟨n2, J1, H, _⟩; cases H
    · rintro q3 σ w ⟨n2, J1, H, hq9, hσ, hL4, S⟩
      have hI := hI.trans hL4
      have hG := hG.mono hL4
      rw [hσ.eq]
      rw [octet_value.l0] at H
      refine FW.seq ?_
      refine FW.region ?_
      refine U rfl rfl (V (x_bin rfl rfl rfl) ?_)
      refine FW.seq ?_
      by_cases cc10 : n2 < 16
      · rw [if_pos cc10] at H
        refine FW.condT rfl (deT cc10) ?_
        refine FW.skip ?_
        refine FW.seq ?_
        refine FW.block ?_
        refine FW.seq ?_
        refine FW.region ?_
        refine U rfl rfl (V (x_movV (v := .int .i64 n2) rfl) ?_)
        obtain ⟨y11, h12, H⟩ := obx H
        refine U rfl rfl (V (x_idxG tar101 tsc5 rfl rfl rfl rfl h12) ?_)
        refine U rfl rfl (V (x_asgV (v := .int .i64 n2) rfl) ?_)
        refine U rfl rfl (V (x_asgV (v := .int .u8 y11) rfl) ?_)
        refine FW.seq ?_
        refine FW.region ?_
        refine U rfl rfl (V (x_movV (v := .int .u8 x0) rfl) ?_)
        refine U rfl rfl (V (x_movV (v := .int .u8 y11) rfl) ?_)
        refine U rfl rfl (V (x_bin rfl rfl rfl) ?_)
        by_cases cc13 : x0 = y11
        · rw [if_pos cc13] at H
          refine FW.condT rfl (eqT cc13) ?_
          refine FW.seq ?_
          refine FW.anew [(3, .int .i64 n2)] ⟨rfl, trivial⟩ fun σ => ?_
          refine FW.region ?_
          refine U rfl rfl (V (x_movV (v := .int .i64 n2) rfl) ?_)
          refine U rfl rfl (V (x_conv tint5 tint_3 rfl) ?_)
          refine U rfl rfl (V (x_asgV (v := .int .u8 (u8 n2)) rfl) ?_)
          refine FW.ret ?_
          obtain rfl := Option.some.inj H
          obtain rfl := Option.some.inj HO6
          exact ⟨_, ⟨_, rfl, rfl⟩, ⟨rfl, (S.weaken hI)⟩⟩
        · rw [if_neg cc13] at H
          refine FW.condF rfl (eqF cc13) ?_
          refine FW.skip ?_
          refine FW.anew [(0, .int .u8 x0), (5, .agg (digs.map (Value.int .u8)).toArray), (6, .int .i64 n2)] ⟨rfl, rfl, rfl, trivial⟩ fun σ => ?_
          refine FW.region ?_
          refine U rfl rfl (V (x_bin rfl rfl rfl) ?_)
          refine U rfl rfl (V (x_movV (v := .int .i64 (i64 (n2 + 1))) rfl) ?_)
          exact ⟨q3, Nat.le_refl _, (i64 (n2 + 1)), J1, H, (Nat.le_of_succ_le hq9), ⟨rfl, rfl, rfl, trivial⟩, hL4, S⟩
      · rw [if_neg cc10] at H
        refine FW.condF rfl (deF cc10) ?_
        refine FW.exit ?_
        exact ⟨J1, (Option.some.inj H), trivial, hL4, S⟩
  · rintro σ w ⟨J8, ho, hσ, hL4, S⟩
    subst ho
    have H := HO6
    try dsimp only at H
    have hI := hI.trans hL4
    have hG := hG.mono hL4
    rw [hσ.eq]
    refine FW.seq ?_
    refine FW.region ?_
    refine U rfl rfl (V (x_asgV (v := .int .u8 16) rfl) ?_)
    refine FW.ret ?_
    obtain rfl := Option.some.inj H
    exact ⟨_, ⟨_, rfl, rfl⟩, ⟨rfl, (S.weaken hI)⟩⟩

def octet_Int.l0 : Nat → ByteArray → Int → Int → Option (Sum (Int × Bool) Int)
  | 0, _, _, _ => none
  | k + 1, x0, n2, n3 => (if n3 < (x0.size : Int) then ((sat x0 n3).bind fun y13 => ((octet_value.f k y13).bind fun y15 => (if y15 > 9 then (some (.inl (0, false))) else (if n2 > 4294967295 then (some (.inl (0, false))) else (octet_Int.l0 k x0 (i64 ((i64 (10 * n2)) + (i64 y15))) (i64 (n3 + 1))))))) else (some (.inr n2)))
def octet_Int.f (k : Nat) (x0 : ByteArray) : Option (Int × Bool) := (((octet_Int.l0 k x0 0 0) : Option (Sum (Int × Bool) Int)).bind fun o => match o with | .inl r => some r | .inr n10 => (if x0 = (⟨#[]⟩) then (some (0, false)) else (if n10 > 4294967295 then (some (0, false)) else ((octet_Text.f k n10).bind fun y21 => (if y21 = x0 then (some (n10, true)) else (some (0, false)))))))
abbrev octet_Int.C (k : Nat) : Prop := ∀ {x0 : ByteArray} {F : List It} {I : IMem} {w : World} {r : Int × Bool}, Glob I → Own I w (F) → octet_Int.f k x0 = some r →
    Calls Tryd.prog 27 #[.string x0] w fun e w' => ∃ v, e = .returned v ∧ v = .tuple #[.int .i64 r.1, .bool r.2] ∧ Own I w' (F)
theorem octet_Int.ok (k : Nat) : octet_Int.C k := by
  intro x0 F I w r hG S H
  have hI := IMem.le.refl I
  rw [octet_Int.f] at H
  refine Calls.ofFW (args := [.string x0]) Tryd.func27 rfl rfl ?_
  refine FW.seq ?_
  refine FW.region ?_
  refine U rfl rfl (V (x_asgV (v := .int .i64 0) rfl) ?_)
  refine U rfl rfl (V (x_asgV (v := .bool false) rfl) ?_)
  refine FW.seq ?_
  refine FW.region ?_
  refine U rfl rfl (V (x_asgV (v := .int .i64 0) rfl) ?_)
  refine FW.seq ?_
  refine FW.seq ?_
  refine FW.region ?_
  refine U rfl rfl (V (x_movV (v := .string x0) rfl) ?_)
  refine U rfl rfl (V (x_lens tstr9 rfl) ?_)
  refine U rfl rfl (V (x_movV (v := .int .i64 0) rfl) ?_)
  refine FW.block ?_
  obtain ⟨o6, hl8, HO7⟩ := obx H
  refine FW.cutX 0 (fun σ w => ∃ (n10 : Int) (J9 : IMem), (.inr n10) = o6 ∧ Has σ [(0, .string x0), (4, .int .i64 n10)] ∧ I.le J9 ∧ Own J9 w (F)) ?_ ?_
  ·
    refine FW.loop k (FL.ind (fun q σ w => ∃ (n2 : Int) (n3 : Int) (J1 : IMem), octet_Int.l0 q x0 n2 n3 = some o6 ∧ q ≤ k ∧ Has σ [(0, .string x0), (4, .int .i64 n2), (8, .int .i64 (x0.size : Int)), (9, .int .i64 n3)] ∧ I.le J1 ∧ Own J1 w (F)) ?_ ?_ k k _ _ (Nat.le_refl _) ⟨0, 0, I, hl8, Nat.le_refl _, ⟨rfl, rfl, rfl, rfl, trivial⟩, (IMem.le.refl _), S⟩)
    · rintro σ w ⟨n2, n3, J1, H, _⟩; cases H
    · rintro q4 σ w ⟨n2, n3, J1, H, hq11, hσ, hL5, S⟩
      have hI := hI.trans hL5
      have hG := hG.mono hL5
      rw [hσ.eq]
      rw [octet_Int.l0] at H
      refine FW.seq ?_
      refine FW.region ?_
      refine U rfl rfl (V (x_bin rfl rfl rfl) ?_)
      refine FW.seq ?_
      by_cases cc12 : n3 < (x0.size : Int)
      · rw [if_pos cc12] at H
        refine FW.condT rfl (deT cc12) ?_
        refine FW.skip ?_
        refine FW.seq ?_
        refine FW.block ?_
        refine FW.seq ?_
        refine FW.region ?_
        refine U rfl rfl (V (x_movV (v := .int .i64 n3) rfl) ?_)
        refine U rfl rfl (V (x_asgV (v := .int .i64 n3) rfl) ?_)
        refine FW.seq ?_
        refine FW.region ?_
        refine U rfl rfl (V (x_movV (v := .string x0) rfl) ?_)
        refine U rfl rfl (V (x_movV (v := .int .i64 n3) rfl) ?_)
        obtain ⟨y13, h14, H⟩ := obx H
        refine U rfl rfl (V (x_sat tstr9 rfl rfl h14) ?_)
        obtain ⟨y15, hy16, H⟩ := obx H
        refine U rfl rfl (cl fb41 (@octet_value.ok q4 y13 _ _ _ _ hG S hy16) rfl ?_)
        rintro _ w ⟨rfl, S⟩
        refine U rfl rfl (V (x_asgV (v := .int .u8 y15) rfl) ?_)
        refine FW.seq ?_
        refine FW.seq ?_
        refine FW.anew [(0, .string x0), (4, .int .i64 n2), (6, .int .u8 y15), (8, .int .i64 (x0.size : Int)), (9, .int .i64 n3)] ⟨rfl, rfl, rfl, rfl, rfl, trivial⟩ fun σ => ?_
        refine FW.region ?_
        refine U rfl rfl (V (x_movV (v := .int .u8 y15) rfl) ?_)
        refine U rfl rfl (V (x_bin rfl rfl rfl) ?_)
        refine U rfl rfl (V (x_movV (v := .bool (decide (y15 > 9))) rfl) ?_)
        by_cases cc17 : y15 > 9
        · rw [if_pos cc17] at H
          refine OK.gf rfl rfl rfl (deT cc17) ?_
          refine OK.gf rfl rfl rfl (deT cc17) ?_
          refine U rfl rfl (V (x_pickTV (v := .bool true) rfl (deT cc17) rfl) ?_)
          refine FW.condT rfl rfl ?_
          refine FW.seq ?_
          refine FW.region ?_
          refine U rfl rfl (V (x_asgV (v := .int .i64 0) rfl) ?_)
          refine U rfl rfl (V (x_asgV (v := .bool false) rfl) ?_)
          refine FW.ret ?_
          obtain rfl := Option.some.inj H
          obtain rfl := Option.some.inj HO7
          exact ⟨_, ⟨_, rfl, ⟨_, rfl, rfl⟩⟩, ⟨rfl, (S.weaken hI)⟩⟩
        · rw [if_neg cc17] at H
          refine OK.gt rfl rfl rfl (deF cc17) (V (x_movV (v := .int .i64 n2) rfl) ?_)
          refine OK.gt rfl rfl rfl (deF cc17) (V (x_bin rfl rfl rfl) ?_)
          refine U rfl rfl (V (x_pickFV (v := .bool (decide (n2 > 4294967295))) rfl (deF cc17) rfl) ?_)
          by_cases cc18 : n2 > 4294967295
          · rw [if_pos cc18] at H
            refine FW.condT rfl (deT cc18) ?_
            refine FW.seq ?_
            refine FW.region ?_
            refine U rfl rfl (V (x_asgV (v := .int .i64 0) rfl) ?_)
            refine U rfl rfl (V (x_asgV (v := .bool false) rfl) ?_)
            refine FW.ret ?_
            obtain rfl := Option.some.inj H
            obtain rfl := Option.some.inj HO7
            exact ⟨_, ⟨_, rfl, ⟨_, rfl, rfl⟩⟩, ⟨rfl, (S.weaken hI)⟩⟩
          · rw [if_neg cc18] at H
            refine FW.condF rfl (deF cc18) ?_
            refine FW.skip ?_
            refine FW.region ?_
            refine U rfl rfl (V (x_movV (v := .int .i64 n2) rfl) ?_)
            refine U rfl rfl (V (x_bin rfl rfl rfl) ?_)
            refine U rfl rfl (V (x_movV (v := .int .u8 y15) rfl) ?_)
            refine U rfl rfl (V (x_conv tint3 tint_5 rfl) ?_)
            refine U rfl rfl (V (x_bin rfl rfl rfl) ?_)
            refine U rfl rfl (V (x_asgV (v := .int .i64 (i64 ((i64 (10 * n2)) + (i64 y15)))) rfl) ?_)
            refine FW.anew [(0, .string x0), (4, .int .i64 (i64 ((i64 (10 * n2)) + (i64 y15)))), (8, .int .i64 (x0.size : Int)), (9, .int .i64 n3)] ⟨rfl, rfl, rfl, rfl, trivial⟩ fun σ => ?_
            refine FW.region ?_
            refine U rfl rfl (V (x_bin rfl rfl rfl) ?_)
            refine U rfl rfl (V (x_movV (v := .int .i64 (i64 (n3 + 1))) rfl) ?_)
            exact ⟨q4, Nat.le_refl _, (i64 ((i64 (10 * n2)) + (i64 y15))), (i64 (n3 + 1)), J1, H, (Nat.le_of_succ_le hq11), ⟨rfl, rfl, rfl, rfl, trivial⟩, hL5, S⟩
      · rw [if_neg cc12] at H
        refine FW.condF rfl (deF cc12) ?_
        refine FW.exit ?_
        exact ⟨n2, J1, (Option.some.inj H), ⟨rfl, rfl, trivial⟩, hL5, S⟩
  · rintro σ w ⟨n10, J9, ho, hσ, hL5, S⟩
    subst ho
    have H := HO7
    try dsimp only at H
    have hI := hI.trans hL5
    have hG := hG.mono hL5
    rw [hσ.eq]
    refine FW.seq ?_
    refine FW.seq ?_
    refine FW.region ?_
    refine U rfl rfl (V (x_movV (v := .string x0) rfl) ?_)
    refine U rfl rfl (V (x_seq rfl rfl) ?_)
    refine U rfl rfl (V (x_movV (v := .bool (decide (x0 = (⟨#[]⟩)))) rfl) ?_)
    by_cases cc19 : x0 = (⟨#[]⟩)
    · rw [if_pos cc19] at H
      refine OK.gf rfl rfl rfl (deT cc19) ?_
      refine OK.gf rfl rfl rfl (deT cc19) ?_
      refine U rfl rfl (V (x_pickTV (v := .bool true) rfl (deT cc19) rfl) ?_)
      refine U rfl rfl (V (x_movV (v := .bool true) rfl) ?_)
      refine OK.gf rfl rfl rfl rfl ?_
      refine OK.gf rfl rfl rfl rfl ?_
      refine OK.gf rfl rfl rfl rfl ?_
      refine OK.gf rfl rfl rfl rfl ?_
      refine U rfl rfl (V (x_pickTV (v := .bool true) rfl rfl rfl) ?_)
      refine FW.condT rfl rfl ?_
      refine FW.seq ?_
      refine FW.region ?_
      refine U rfl rfl (V (x_asgV (v := .int .i64 0) rfl) ?_)
      refine U rfl rfl (V (x_asgV (v := .bool false) rfl) ?_)
      refine FW.ret ?_
      obtain rfl := Option.some.inj H
      exact ⟨_, ⟨_, rfl, ⟨_, rfl, rfl⟩⟩, ⟨rfl, (S.weaken hI)⟩⟩
    · rw [if_neg cc19] at H
      refine OK.gt rfl rfl rfl (deF cc19) (V (x_movV (v := .int .i64 n10) rfl) ?_)
      refine OK.gt rfl rfl rfl (deF cc19) (V (x_bin rfl rfl rfl) ?_)
      refine U rfl rfl (V (x_pickFV (v := .bool (decide (n10 > 4294967295))) rfl (deF cc19) rfl) ?_)
      refine U rfl rfl (V (x_movV (v := .bool (decide (n10 > 4294967295))) rfl) ?_)
      by_cases cc20 : n10 > 4294967295
      · rw [if_pos cc20] at H
        refine OK.gf rfl rfl rfl (deT cc20) ?_
        refine OK.gf rfl rfl rfl (deT cc20) ?_
        refine OK.gf rfl rfl rfl (deT cc20) ?_
        refine OK.gf rfl rfl rfl (deT cc20) ?_
        refine U rfl rfl (V (x_pickTV (v := .bool true) rfl (deT cc20) rfl) ?_)
        refine FW.condT rfl rfl ?_
        refine FW.seq ?_
        refine FW.anew [] trivial fun σ => ?_
        refine FW.region ?_
        refine U rfl rfl (V (x_asgV (v := .int .i64 0) rfl) ?_)
        refine U rfl rfl (V (x_asgV (v := .bool false) rfl) ?_)
        refine FW.ret ?_
        obtain rfl := Option.some.inj H
        exact ⟨_, ⟨_, rfl, ⟨_, rfl, rfl⟩⟩, ⟨rfl, (S.weaken hI)⟩⟩
      · rw [if_neg cc20] at H
        refine OK.gt rfl rfl rfl (deF cc20) (V (x_movV (v := .int .i64 n10) rfl) ?_)
        obtain ⟨y21, hy22, H⟩ := obx H
        refine OK.gt rfl rfl rfl (deF cc20) (cl fb42 (@octet_Text.ok k n10 _ _ _ _ hG S hy22) rfl ?_)
        rintro _ w ⟨rfl, S⟩
        refine OK.gt rfl rfl rfl (deF cc20) (V (x_movV (v := .string x0) rfl) ?_)
        refine OK.gt rfl rfl rfl (deF cc20) (V (x_sne rfl rfl) ?_)
        refine U rfl rfl (V (x_pickFV (v := .bool (!decide (y21 = x0))) rfl (deF cc20) rfl) ?_)
        by_cases cc23 : y21 = x0
        · rw [if_pos cc23] at H
          refine FW.condF rfl (noF (deT cc23)) ?_
          refine FW.skip ?_
          refine FW.seq ?_
          refine FW.anew [(4, .int .i64 n10)] ⟨rfl, trivial⟩ fun σ => ?_
          refine FW.region ?_
          refine U rfl rfl (V (x_movV (v := .int .i64 n10) rfl) ?_)
          refine U rfl rfl (V (x_asgV (v := .int .i64 n10) rfl) ?_)
          refine U rfl rfl (V (x_asgV (v := .bool true) rfl) ?_)
          refine FW.ret ?_
          obtain rfl := Option.some.inj H
          exact ⟨_, ⟨_, rfl, ⟨_, rfl, rfl⟩⟩, ⟨rfl, (S.weaken hI)⟩⟩
        · rw [if_neg cc23] at H
          refine FW.condT rfl (noT (deF cc23)) ?_
          refine FW.seq ?_
          refine FW.anew [] trivial fun σ => ?_
          refine FW.region ?_
          refine U rfl rfl (V (x_asgV (v := .int .i64 0) rfl) ?_)
          refine U rfl rfl (V (x_asgV (v := .bool false) rfl) ?_)
          refine FW.ret ?_
          obtain rfl := Option.some.inj H
          exact ⟨_, ⟨_, rfl, ⟨_, rfl, rfl⟩⟩, ⟨rfl, (S.weaken hI)⟩⟩

def regex_signs_1.f (k : Nat) (x0 : Int) (x1 : Int) (x2 : ByteArray) (x3 : (List T_regex_sign)) : Option (Bool × Int × (List T_regex_sign)) := (if x1 < 0 then (some (true, x1, x3)) else ((scutLR x2 x1 x0).bind fun s3 => ((octet_Int.f k s3).bind fun y4 => ((app 12 x3 [(T_regex_sign.mk 0 (u32 y4.1) true)]).bind fun l10 => (some (y4.2, (-1), l10))))))
abbrev regex_signs_1.C (k : Nat) : Prop := ∀ {x0 : Int} {x1 : Int} {x2 : ByteArray} {x3 : (List T_regex_sign)} {vx3 : Value} {bx1 : Nat} {bx2 : Nat} {bx3 : Nat} {F : List It} {I : IMem} {w : World} {r : Bool × Int × (List T_regex_sign)}, Glob I → Own I w (.bk bx1 3 [.int .i64 x1] :: .bk bx2 9 [.string x2] :: .bk bx3 39 [vx3] :: .tv vx3 51 3 :: F) → SlR R_regex_sign I vx3 x3 → regex_signs_1.f k x0 x1 x2 x3 = some r →
    Calls Tryd.prog 26 #[.int .i64 x0, .pointer (some ⟨bx1, 0, none⟩), .pointer (some ⟨bx2, 0, none⟩), .pointer (some ⟨bx3, 0, none⟩)] w fun e w' => ∃ v, e = .returned v ∧ ∃ (vy_2 : Value) (J : IMem), I.le J ∧ v = .bool r.1 ∧ SlR R_regex_sign J vy_2 r.2.2 ∧ Own J w' (.bk bx1 3 [.int .i64 r.2.1] :: .bk bx2 9 [.string x2] :: .bk bx3 39 [vy_2] :: .tv vy_2 51 3 :: F)
theorem regex_signs_1.ok (k : Nat) : regex_signs_1.C k := by
  intro x0 x1 x2 x3 vx3 bx1 bx2 bx3 F I w r hG S hx3 H
  have hI := IMem.le.refl I
  rw [regex_signs_1.f] at H
  refine Calls.ofFW (args := [.int .i64 x0, .pointer (some ⟨bx1, 0, none⟩), .pointer (some ⟨bx2, 0, none⟩), .pointer (some ⟨bx3, 0, none⟩)]) Tryd.func26 rfl rfl ?_
  refine FW.seq ?_
  refine FW.region ?_
  refine U rfl rfl (V (x_asgV (v := .bool false) rfl) ?_)
  refine FW.seq ?_
  refine FW.seq ?_
  refine FW.region ?_
  refine U rfl rfl (V (x_ld tsc3 rfl (S.load 0 rfl 0 rfl)) ?_)
  refine U rfl rfl (V (x_bin rfl rfl rfl) ?_)
  by_cases cc1 : x1 < 0
  · rw [if_pos cc1] at H
    refine FW.condT rfl (deT cc1) ?_
    refine FW.seq ?_
    refine FW.region ?_
    refine U rfl rfl (V (x_asgV (v := .bool true) rfl) ?_)
    refine FW.ret ?_
    obtain rfl := Option.some.inj H
    exact ⟨_, ⟨_, rfl, rfl⟩, ⟨vx3, I, hI, rfl, hx3, S⟩⟩
  · rw [if_neg cc1] at H
    refine FW.condF rfl (deF cc1) ?_
    refine FW.skip ?_
    refine FW.seq ?_
    refine FW.region ?_
    refine U rfl rfl (V (x_ld tsc9 rfl (S.load 1 rfl 0 rfl)) ?_)
    refine U rfl rfl (V (x_ld tsc3 rfl (S.load 0 rfl 0 rfl)) ?_)
    refine U rfl rfl (V (x_movV (v := .int .i64 x0) rfl) ?_)
    obtain ⟨s3, h2, H⟩ := obx H
    refine U rfl rfl (o_scutLR tstr9 rfl rfl rfl h2 ?_)
    obtain ⟨y4, hy5, H⟩ := obx H
    refine U rfl rfl (cl fb27 (@octet_Int.ok k s3 _ _ _ _ hG S hy5) rfl ?_)
    rintro _ w ⟨rfl, S⟩
    refine U rfl rfl (V (x_movV (v := .tuple #[.int .i64 y4.1, .bool y4.2]) rfl) ?_)
    refine U rfl rfl (V (x_ext rfl rfl) ?_)
    refine U rfl rfl (V (x_ext rfl rfl) ?_)
    refine U rfl rfl (V (x_asgV (v := .int .i64 y4.1) rfl) ?_)
    refine U rfl rfl (V (x_asgV (v := .bool y4.2) rfl) ?_)
    refine FW.seq ?_
    refine FW.anew [(1, .pointer (some ⟨bx1, 0, none⟩)), (3, .pointer (some ⟨bx3, 0, none⟩)), (6, .int .i64 y4.1), (7, .bool y4.2)] ⟨rfl, rfl, rfl, rfl, trivial⟩ fun σ => ?_
    refine FW.region ?_
    refine U rfl rfl (V (x_ld tsc39 rfl (S.load 2 rfl 0 rfl)) ?_)
    refine U rfl rfl (V (x_movV (v := .int .i64 y4.1) rfl) ?_)
    refine U rfl rfl (V (x_conv tint38 tint_3 rfl) ?_)
    refine U rfl rfl (V (x_bld tz51 tpl51 rfl (.one rfl (.one rfl PC.nil)) rfl) ?_)
    refine U rfl rfl (o_bsl tsl39 tz51 rfl rfl rfl rfl (.agg PC.nil) rfl S fun b6 w S => ?_)
    obtain ⟨J7, hJ9, S, h8⟩ := S.freeze (r := R_regex_sign) (l := [(T_regex_sign.mk 0 (u32 y4.1) true)]) 0 rfl ⟨[.int .i32 0, .int .u32 (u32 y4.1), .bool true], _, rfl, rfl, rfl⟩ rfl rfl
    have hx3 := hx3.mono hJ9
    have hI := hI.trans hJ9
    have hG := hG.mono hJ9
    obtain ⟨l10, h12, H⟩ := obx H
    refine U rfl rfl (o_appD (r := R_regex_sign) tsl39 rfl tz51 rfl rfl S 4 rfl rfl hx3 h8 h12 fun v11 w J14 hJ15 S h13 => ?_)
    have hx3 := hx3.mono hJ15
    have h8 := h8.mono hJ15
    have hI := hI.trans hJ15
    have hG := hG.mono hJ15
    refine U rfl rfl (o_st tone39 S 3 rfl rfl rfl h13.one fun w S => ?_)
    refine FW.seq ?_
    refine FW.anew [(1, .pointer (some ⟨bx1, 0, none⟩)), (7, .bool y4.2)] ⟨rfl, rfl, trivial⟩ fun σ => ?_
    refine FW.region ?_
    refine U rfl rfl (o_st tone3 S 1 rfl rfl rfl rfl fun w S => ?_)
    refine FW.seq ?_
    refine FW.region ?_
    refine U rfl rfl (V (x_movV (v := .bool y4.2) rfl) ?_)
    refine U rfl rfl (V (x_asgV (v := .bool y4.2) rfl) ?_)
    refine FW.ret ?_
    obtain rfl := Option.some.inj H
    exact ⟨_, ⟨_, rfl, rfl⟩, ⟨v11, J14, hI, rfl, h13, (S.sel 5 [1, 2, 3, 4] rfl)⟩⟩
end Go.Proofs.YtkkflfmonidepaaDoor
