/-
  Parts of the proof, merged: F8, F9, F10, F11.
-/
import Derived.Test.YtafnenafbognkaaGreatDoorW10
namespace Go.Proofs.YtafnenafbognkaaGreatDoor
open Sp
set_option maxRecDepth 100000
set_option maxHeartbeats 4000000
mutual
def r11_P_choices.l0 : Nat → (List Int) → ByteArray → Int → (List T_r11_Node) → Bool → Option ((List Int) × ByteArray × Int × (List T_r11_Node) × Bool)
  | 0, _, _, _, _, _ => none
  | k + 1, l11, s14, n15, l16, b19 => (if b19 = true then (some (l11, s14, n15, l16, b19)) else ((r11_P_sign.f k (T_r11_P.mk s14 n15 l16 b19)).bind fun y37 => (if y37.1 = 124 then ((r11_P_row.f k (T_r11_P.mk y37.2.S (i64 (y37.2.At + 1)) y37.2.N y37.2.Bad)).bind fun y43 => ((app 8 l11 [y43.1]).bind fun l51 => (r11_P_choices.l0 k l51 y43.2.S y43.2.At y43.2.N y43.2.Bad))) else (some (l11, y37.2.S, y37.2.At, y37.2.N, y37.2.Bad)))))
def r11_P_choices.f : Nat → T_r11_P → Option (Int × T_r11_P)
  | 0, _ => none
  | k + 1, x0 => ((r11_P_row.f k x0).bind fun y1 => ((r11_P_choices.l0 k [y1.1] y1.2.S y1.2.At y1.2.N y1.2.Bad).bind fun (l26, s29, n30, l31, b34) => ((r11_P_put.f k (T_r11_P.mk s29 n30 l31 b34) (T_r11_Node.mk 99 l26 [] [] false false)).bind fun y57 => (some (y57.1, y57.2)))))
def r11_P_row.l0 : Nat → Int → ByteArray → Int → (List T_r11_Node) → Bool → (List Int) → Option (ByteArray × Int × (List T_r11_Node) × Bool × (List Int))
  | 0, _, _, _, _, _, _ => none
  | k + 1, n8, s9, n10, l11, b14, l15 => (if b14 = true then (some (s9, n10, l11, b14, l15)) else (if n8 = 0 then (some (s9, n10, l11, b14, l15)) else (if n8 = 124 then (some (s9, n10, l11, b14, l15)) else (if n8 = 41 then (some (s9, n10, l11, b14, l15)) else ((r11_P_part.f k (T_r11_P.mk s9 n10 l11 b14)).bind fun y39 => ((app 8 l15 [y39.1]).bind fun l47 => ((r11_P_sign.f k y39.2).bind fun y53 => (r11_P_row.l0 k y53.1 y53.2.S y53.2.At y53.2.N y53.2.Bad l47))))))))
def r11_P_row.f : Nat → T_r11_P → Option (Int × T_r11_P)
  | 0, _ => none
  | k + 1, x0 => ((r11_P_sign.f k x0).bind fun y2 => ((r11_P_row.l0 k y2.1 y2.2.S y2.2.At y2.2.N y2.2.Bad []).bind fun (s24, n25, l26, b29, l30) => ((r11_P_put.f k (T_r11_P.mk s24 n25 l26 b29) (T_r11_Node.mk 114 l30 [] [] false false)).bind fun y57 => (some (y57.1, y57.2)))))
def r11_P_part.l0 : Nat → Int → Int → ByteArray → Int → (List T_r11_Node) → Bool → Option (Int × ByteArray × Int × (List T_r11_Node) × Bool)
  | 0, _, _, _, _, _, _ => none
  | k + 1, n70, n71, s72, n73, l74, b77 => (if b77 = true then (some (n71, s72, n73, l74, b77)) else (if n70 = 42 then ((r11_P_put.f k (T_r11_P.mk s72 (i64 (n73 + 1)) l74 b77) (T_r11_Node.mk n70 [n71] [] [] false false)).bind fun y98 => ((r11_P_sign.f k y98.2).bind fun y102 => (r11_P_part.l0 k y102.1 y98.1 y102.2.S y102.2.At y102.2.N y102.2.Bad))) else (if n70 = 43 then ((r11_P_put.f k (T_r11_P.mk s72 (i64 (n73 + 1)) l74 b77) (T_r11_Node.mk n70 [n71] [] [] false false)).bind fun y111 => ((r11_P_sign.f k y111.2).bind fun y115 => (r11_P_part.l0 k y115.1 y111.1 y115.2.S y115.2.At y115.2.N y115.2.Bad))) else (if n70 = 63 then ((r11_P_put.f k (T_r11_P.mk s72 (i64 (n73 + 1)) l74 b77) (T_r11_Node.mk n70 [n71] [] [] false false)).bind fun y124 => ((r11_P_sign.f k y124.2).bind fun y128 => (r11_P_part.l0 k y128.1 y124.1 y128.2.S y128.2.At y128.2.N y128.2.Bad))) else (some (n71, s72, n73, l74, b77))))))
def r11_P_part.f : Nat → T_r11_P → Option (Int × T_r11_P)
  | 0, _ => none
  | k + 1, x0 => ((r11_P_sign.f k x0).bind fun y1 => ((((r11_digit.f k y1.1).bind fun y16 => (if y16 = true then ((r11_P_num.f k y1.2).bind fun y19 => ((r11_P_put.f k y19.2 (T_r11_Node.mk 115 [] [y19.1] [y19.1] false true)).bind fun y31 => (some (.inr (y31.1, y31.2.S, y31.2.At, y31.2.N, y31.2.Bad))))) else (if y1.1 = 46 then ((r11_P_put.f k (T_r11_P.mk y1.2.S (i64 (y1.2.At + 1)) y1.2.N y1.2.Bad) (T_r11_Node.mk y1.1 [] [] [] false false)).bind fun y36 => (some (.inr (y36.1, y36.2.S, y36.2.At, y36.2.N, y36.2.Bad)))) else (if y1.1 = 94 then ((r11_P_put.f k (T_r11_P.mk y1.2.S (i64 (y1.2.At + 1)) y1.2.N y1.2.Bad) (T_r11_Node.mk y1.1 [] [] [] false false)).bind fun y41 => (some (.inr (y41.1, y41.2.S, y41.2.At, y41.2.N, y41.2.Bad)))) else (if y1.1 = 36 then ((r11_P_put.f k (T_r11_P.mk y1.2.S (i64 (y1.2.At + 1)) y1.2.N y1.2.Bad) (T_r11_Node.mk y1.1 [] [] [] false false)).bind fun y46 => (some (.inr (y46.1, y46.2.S, y46.2.At, y46.2.N, y46.2.Bad)))) else (if y1.1 = 91 then ((r11_P_set.f k (T_r11_P.mk y1.2.S (i64 (y1.2.At + 1)) y1.2.N y1.2.Bad)).bind fun y51 => (some (.inr (y51.1, y51.2.S, y51.2.At, y51.2.N, y51.2.Bad)))) else (if y1.1 = 40 then ((r11_P_choices.f k (T_r11_P.mk y1.2.S (i64 (y1.2.At + 1)) y1.2.N y1.2.Bad)).bind fun y56 => ((r11_P_sign.f k y56.2).bind fun y60 => (if y60.1 = 41 then (some (.inr (y56.1, y60.2.S, (i64 (y60.2.At + 1)), y60.2.N, y60.2.Bad))) else (some (.inl (0, (T_r11_P.mk y60.2.S y60.2.At y60.2.N true))))))) else (some (.inl (0, (T_r11_P.mk y1.2.S y1.2.At y1.2.N true))))))))))) : Option (Sum (Int × T_r11_P) (Int × ByteArray × Int × (List T_r11_Node) × Bool))).bind fun o => match o with | .inl r => some r | .inr (n6, s7, n8, l9, b12) => ((r11_P_sign.f k (T_r11_P.mk s7 n8 l9 b12)).bind fun y65 => ((r11_P_part.l0 k y65.1 n6 y65.2.S y65.2.At y65.2.N y65.2.Bad).bind fun (n84, s85, n86, l87, b90) => (some (n84, (T_r11_P.mk s85 n86 l87 b90)))))))
end
abbrev r11_P_choices.C (k : Nat) : Prop := ∀ {x0 : T_r11_P} {x0v2 : Value} {bx0 : Nat} {F : List It} {I : IMem} {w : World} {r : Int × T_r11_P}, Glob I → Own I w (.bk bx0 135 [.string x0.S, .int .i64 x0.At, x0v2, .bool x0.Bad] :: .tv x0v2 163 6 :: F) → SlR R_r11_Node I x0v2 x0.N → r11_P_choices.f k x0 = some r →
    Calls Tryz.prog 86 #[pt bx0] w fun e w' => ∃ v, e = .returned v ∧ ∃ (y_1v2 : Value) (J : IMem), I.le J ∧ v = .int .i64 r.1 ∧ SlR R_r11_Node J y_1v2 r.2.N ∧ Own J w' (.bk bx0 135 [.string r.2.S, .int .i64 r.2.At, y_1v2, .bool r.2.Bad] :: .tv y_1v2 163 6 :: F)
abbrev r11_P_row.C (k : Nat) : Prop := ∀ {x0 : T_r11_P} {x0v2 : Value} {bx0 : Nat} {F : List It} {I : IMem} {w : World} {r : Int × T_r11_P}, Glob I → Own I w (.bk bx0 135 [.string x0.S, .int .i64 x0.At, x0v2, .bool x0.Bad] :: .tv x0v2 163 6 :: F) → SlR R_r11_Node I x0v2 x0.N → r11_P_row.f k x0 = some r →
    Calls Tryz.prog 119 #[pt bx0] w fun e w' => ∃ v, e = .returned v ∧ ∃ (y_1v2 : Value) (J : IMem), I.le J ∧ v = .int .i64 r.1 ∧ SlR R_r11_Node J y_1v2 r.2.N ∧ Own J w' (.bk bx0 135 [.string r.2.S, .int .i64 r.2.At, y_1v2, .bool r.2.Bad] :: .tv y_1v2 163 6 :: F)
abbrev r11_P_part.C (k : Nat) : Prop := ∀ {x0 : T_r11_P} {x0v2 : Value} {bx0 : Nat} {F : List It} {I : IMem} {w : World} {r : Int × T_r11_P}, Glob I → Own I w (.bk bx0 135 [.string x0.S, .int .i64 x0.At, x0v2, .bool x0.Bad] :: .tv x0v2 163 6 :: F) → SlR R_r11_Node I x0v2 x0.N → r11_P_part.f k x0 = some r →
    Calls Tryz.prog 144 #[pt bx0] w fun e w' => ∃ v, e = .returned v ∧ ∃ (y_1v2 : Value) (J : IMem), I.le J ∧ v = .int .i64 r.1 ∧ SlR R_r11_Node J y_1v2 r.2.N ∧ Own J w' (.bk bx0 135 [.string r.2.S, .int .i64 r.2.At, y_1v2, .bool r.2.Bad] :: .tv y_1v2 163 6 :: F)
theorem r11_P_choices.step (k : Nat) (ih_r11_P_row : ∀ m, m ≤ k → r11_P_row.C m) : r11_P_choices.C (k + 1) := by
 intro x0 x0v2 bx0 F I w r hG S x0h2 H
 have hI := ilr I
 rw [r11_P_choices.f] at H
 refine Calls.ofFW (args := [pt bx0]) Tryz.func86 rfl rfl <| sr <| mv (.int .i64 0) rfl <| sr <| mv (pt bx0) rfl ?_
 obtain ⟨y1, hy2, H⟩ := obx H
 refine g rfl (cl fb119 (@ih_r11_P_row k (by omega) x0 _ _ _ _ _ _ hG S x0h2 hy2) rfl ?_)
 rintro _ w ⟨y1_1v2, J3, hJ4, rfl, y1_1h2, S⟩
 have hI := hI.trans hJ4
 have hG := hG.mono hJ4
 refine g rfl (o_bsl tsl161 tz3 rfl rfl rfl rfl (.one rfl PC.nil) rfl S fun b5 w S => ?_)
 obtain ⟨J6, hJ8, S, h7⟩ := S.freeze (r := (tInt' .i64)) (l := [y1.1]) 0 rfl ⟨[.int .i64 y1.1], _, rfl, rfl, rfl⟩ rfl rfl
 have y1_1h2 := y1_1h2.mono hJ8
 have hI := hI.trans hJ8
 have hG := hG.mono hJ8
 refine u rfl (x_bld tz163 tpl163 rfl (.one rfl (.one h7.one PC.nil)) rfl) <| g rfl (o_all tz163 S fun b9 w S => g rfl (o_stA tag163 S 0 rfl rfl rfl rfl (c1 rfl (c1 h7.one (c1 rfl (c1 rfl (c1 rfl (c1 rfl c0)))))) rfl fun w S => sq (bk ?_)))
 obtain ⟨o22, hl24, HO23⟩ := obx H
 refine FW.cutX 0 (fun σ w => ∃ (l26 : (List Int)) (s29 : ByteArray) (n30 : Int) (l31 : (List T_r11_Node)) (b34 : Bool) (v27 : Value) (v32 : Value) (J25 : IMem), (l26, s29, n30, l31, b34) = o22 ∧ Has σ [(0, pt bx0), (3, pt b9)] ∧ J6.le J25 ∧ Own J25 w (.bk b9 163 [.int .u8 99, v27, (.slice none 0 0), (.slice none 0 0), .bool false, .bool false] :: .tv v27 3 1 :: .bk bx0 135 [.string s29, .int .i64 n30, v32, .bool b34] :: .tv v32 163 6 :: F) ∧ SlR (tInt' .i64) J25 v27 l26 ∧ SlR R_r11_Node J25 v32 l31) ?_ ?_
 ·refine FW.loop k (FL.ind (fun q σ w => ∃ (l11 : (List Int)) (s14 : ByteArray) (n15 : Int) (l16 : (List T_r11_Node)) (b19 : Bool) (v12 : Value) (v17 : Value) (J10 : IMem), r11_P_choices.l0 q l11 s14 n15 l16 b19 = some o22 ∧ q ≤ k ∧ Has σ [(0, pt bx0), (3, pt b9)] ∧ J6.le J10 ∧ Own J10 w (.bk b9 163 [.int .u8 99, v12, (.slice none 0 0), (.slice none 0 0), .bool false, .bool false] :: .tv v12 3 1 :: .bk bx0 135 [.string s14, .int .i64 n15, v17, .bool b19] :: .tv v17 163 6 :: F) ∧ SlR (tInt' .i64) J10 v12 l11 ∧ SlR R_r11_Node J10 v17 l16) ?_ ?_ k k _ _ (Nat.le_refl _) ⟨[y1.1], y1.2.S, y1.2.At, y1.2.N, y1.2.Bad, (.slice (some ⟨b5, 0, none⟩) 1 1), y1_1v2, J6, hl24, Nat.le_refl _, ⟨rfl, rfl, trivial⟩, (ilr _), S, h7, y1_1h2⟩)
  ·rintro σ w ⟨l11, s14, n15, l16, b19, v12, v17, J10, H, _⟩; cases H
  rintro q20 σ w ⟨l11, s14, n15, l16, b19, v12, v17, J10, H, hq35, hσ, hL21, S, h13, h18⟩
  have hG := hG.mono hL21
  rw [hσ.eq]
  rw [r11_P_choices.l0] at H
  refine sq <| sr <| mv (pt bx0) rfl <| u rfl (x_nk rfl) <| u rfl (x_fa tf135_3 rfl) <| u rfl (x_ld tsc4 rfl (S.load 2 rfl 3 rfl)) <| u rfl (x_not' rfl) <| mv (.bool (!b19)) rfl ?_
  by_cases cc36 : b19 = true
  ·rw [if_pos cc36] at H
   refine gn rfl rfl rfl (noF cc36) <| gn rfl rfl rfl (noF cc36) <| gn rfl rfl rfl (noF cc36) <| u rfl (x_pickFV (v := .bool false) rfl (noF cc36) rfl) <| cF rfl rfl <| ex ⟨l11, s14, n15, l16, b19, v12, v17, J10, (si H), ⟨rfl, rfl, trivial⟩, hL21, S, h13, h18⟩
  rw [if_neg cc36] at H
  refine gu rfl rfl rfl (noT (vaF cc36)) (x_movV (v := pt bx0) rfl) ?_
  obtain ⟨y37, hy38, H⟩ := obx H
  refine OK.gt rfl rfl rfl (noT (vaF cc36)) (cl fb87 (@r11_P_sign.ok q20 (T_r11_P.mk s14 n15 l16 b19) _ _ _ _ _ _ hG (S.sel 4 [2, 3, 0, 1] rfl) h18 hy38) rfl ?_)
  rintro _ w ⟨y37_1v2, J39, hJ40, rfl, y37_1h2, S⟩
  have h13 := h13.mono hJ40
  have hL21 := hL21.trans hJ40
  have hG := hG.mono hJ40
  refine gu rfl rfl rfl (noT (vaF cc36)) (x_bin rfl rfl rfl) <| u rfl (x_pickTV (v := .bool (y37.1 == 124)) rfl (noT (vaF cc36)) rfl) ?_
  by_cases cc41 : y37.1 = 124
  ·rw [if_pos cc41] at H
   refine cT rfl (eqT cc41) <| sk <| bk <| sq <| FW.anew [(0, pt bx0), (3, pt b9)] ⟨rfl, rfl, trivial⟩ fun σ => rg <| mv (pt bx0) rfl <| mv (pt bx0) rfl <| u rfl (x_nk rfl) <| u rfl (x_fa tf135_1 rfl) <| u rfl (x_ld tsc3 rfl (S.load 0 rfl 1 rfl)) <| u rfl (x_bin rfl rfl rfl) <| u rfl (x_nk rfl) <| u rfl (x_fa tf135_1 rfl) <| g rfl (o_st tone3 S 0 rfl rfl rfl rfl fun w S => FW.anew [(0, pt bx0), (3, pt b9)] ⟨rfl, rfl, trivial⟩ fun σ => ?_)
   have S := S.drew
   refine FW.regionD mixed ?_
   have hO := Hold.nil (w := { w with drawn := w.drawn + 1 })
   refine ap 0 rfl (by kernel_rfl) hO (fun w => x_fa tf163_1 rfl) ?_
   have hR42 := ilr J39
   refine ak (Stab J39 [.bk b9 163 [.int .u8 99, v12, (.slice none 0 0), (.slice none 0 0), .bool false, .bool false]]) 1 rfl (by kernel_rfl) hO (Stab.of S 2 rfl hR42) (fun w hS => x_ld tsc161 rfl (hS.load 0 rfl 1 rfl)) fun hO => am 2 (pt bx0) rfl (by kernel_rfl) hO <| AQ.one 3 [1] [true] (by kernel_rfl) rfl (by kernel_rfl) ?_
   obtain ⟨y43, hy44, H⟩ := obx H
   refine g rfl (cl fb119 (@ih_r11_P_row q20 (by omega) (T_r11_P.mk y37.2.S (i64 (y37.2.At + 1)) y37.2.N y37.2.Bad) _ _ _ _ _ _ hG S y37_1h2 hy44) rfl ?_)
   rintro _ w ⟨y43_1v2, J45, hJ46, rfl, y43_1h2, S⟩
   have h13 := h13.mono hJ46
   have hL21 := hL21.trans hJ46
   have hR42 := hR42.trans hJ46
   refine andI (Hold.cons (Stab.of S 2 rfl hR42) Hold.nil) fun hO => AQ.one 4 [1] [true] (by kernel_rfl) rfl (by kernel_rfl) <| g rfl (o_bsl tsl161 tz3 rfl rfl rfl rfl (.one rfl PC.nil) rfl S fun b47 w S => ?_)
   obtain ⟨J48, hJ50, S, h49⟩ := S.freeze (r := (tInt' .i64)) (l := [y43.1]) 0 rfl ⟨[.int .i64 y43.1], _, rfl, rfl, rfl⟩ rfl rfl
   have h13 := h13.mono hJ50
   have y43_1h2 := y43_1h2.mono hJ50
   have hL21 := hL21.trans hJ50
   have hR42 := hR42.trans hJ50
   refine andI (Hold.cons (Stab.of S 3 rfl hR42) Hold.nil) fun hO => AQ.one 5 [1] [false] (by kernel_rfl) rfl (by kernel_rfl) ?_
   obtain ⟨l51, h53, H⟩ := obx H
   refine g rfl (o_appD (r := (tInt' .i64)) tsl161 rfl tz3 rfl rfl S 4 rfl rfl h13 h49 h53 fun v52 w J55 hJ56 S h54 => ?_)
   have y43_1h2 := y43_1h2.mono hJ56
   have hL21 := hL21.trans hJ56
   refine andI Hold.nil fun hO => ap 6 rfl (by kernel_rfl) hO (fun w => x_fa tf163_1 rfl) <| AQ.one 7 [] [] (by kernel_rfl) rfl (by kernel_rfl) <| g rfl (o_st tone161 S 3 rfl rfl rfl h54.one fun w S => andI Hold.nil fun hO => AQ.done (by kernel_rfl) ⟨q20, Nat.le_refl _, l51, y43.2.S, y43.2.At, y43.2.N, y43.2.Bad, v52, y43_1v2, J55, H, (Nat.le_of_succ_le hq35), ⟨rfl, rfl, trivial⟩, hL21, (S.sel 5 [3, 4, 1, 2] rfl), h54, y43_1h2⟩)
  rw [if_neg cc41] at H
  refine cF rfl (eqF cc41) <| ex ⟨l11, y37.2.S, y37.2.At, y37.2.N, y37.2.Bad, v12, y37_1v2, J39, (si H), ⟨rfl, rfl, trivial⟩, hL21, (S.sel 4 [2, 3, 0, 1] rfl), h13, y37_1h2⟩
 rintro σ w ⟨l26, s29, n30, l31, b34, v27, v32, J25, ho, hσ, hL21, S, h28, h33⟩
 subst ho
 have H := HO23
 try dsimp only at H
 have hI := hI.trans hL21
 have hG := hG.mono hL21
 rw [hσ.eq]
 refine sr <| mv (pt bx0) rfl <| u rfl (x_ldA tag163 rfl (S.loadW 0 rfl) rfl) ?_
 obtain ⟨y57, hy58, H⟩ := obx H
 refine g rfl (cl fb120 (@r11_P_put.ok k (T_r11_P.mk s29 n30 l31 b34) (T_r11_Node.mk 99 l26 [] [] false false) _ _ _ _ _ _ _ _ _ hG (S.sel 4 [2, 3, 0, 1] rfl) h33 h28 (SlR.nil _ _) (SlR.nil _ _) hy58) rfl ?_)
 rintro _ w ⟨y57_1v2, J59, hJ60, rfl, y57_1h2, S⟩
 have hI := hI.trans hJ60
 refine mv (.int .i64 y57.1) rfl <| rt ?_
 obtain rfl := si H
 exact ⟨_, ⟨_, rfl, rfl⟩, ⟨y57_1v2, J59, hI, rfl, y57_1h2, (S.sel 4 [0, 1] rfl)⟩⟩
theorem r11_P_choices.zero : r11_P_choices.C 0 := by
  intro _ _ _ _ _ _ _ _ _ _ H; cases H
theorem r11_P_row.step (k : Nat) (ih_r11_P_part : ∀ m, m ≤ k → r11_P_part.C m) : r11_P_row.C (k + 1) := by
 intro x0 x0v2 bx0 F I w r hG S x0h2 H
 have hI := ilr I
 rw [r11_P_row.f] at H
 refine Calls.ofFW (args := [pt bx0]) Tryz.func119 rfl rfl <| sr <| mv (.int .i64 0) rfl <| sr <| u rfl (x_bld tz163 tpl163 rfl (.one rfl PC.nil) rfl) <| g rfl (o_all tz163 S fun b1 w S => g rfl (o_stA tag163 S 0 rfl rfl rfl rfl (c1 rfl (c1 rfl (c1 rfl (c1 rfl (c1 rfl (c1 rfl c0)))))) rfl fun w S => sq (rg (mv (pt bx0) rfl ?_))))
 obtain ⟨y2, hy3, H⟩ := obx H
 refine g rfl (cl fb87 (@r11_P_sign.ok k x0 _ _ _ _ _ _ hG (S.sel 3 [1, 2, 0] rfl) x0h2 hy3) rfl ?_)
 rintro _ w ⟨y2_1v2, J4, hJ5, rfl, y2_1h2, S⟩
 have hI := hI.trans hJ5
 have hG := hG.mono hJ5
 refine mv (.int .u8 y2.1) rfl <| sq <| bk ?_
 have S := S.nil_tv 3 1
 obtain ⟨o20, hl22, HO21⟩ := obx H
 refine FW.cutX 0 (fun σ w => ∃ (s24 : ByteArray) (n25 : Int) (l26 : (List T_r11_Node)) (b29 : Bool) (l30 : (List Int)) (v27 : Value) (v31 : Value) (J23 : IMem), (s24, n25, l26, b29, l30) = o20 ∧ Has σ [(0, pt bx0), (3, pt b1)] ∧ J4.le J23 ∧ Own J23 w (.tv v31 3 1 :: .bk bx0 135 [.string s24, .int .i64 n25, v27, .bool b29] :: .tv v27 163 6 :: .bk b1 163 [.int .u8 114, v31, (.slice none 0 0), (.slice none 0 0), .bool false, .bool false] :: F) ∧ SlR R_r11_Node J23 v27 l26 ∧ SlR (tInt' .i64) J23 v31 l30) ?_ ?_
 ·refine FW.loop k (FL.ind (fun q σ w => ∃ (n8 : Int) (s9 : ByteArray) (n10 : Int) (l11 : (List T_r11_Node)) (b14 : Bool) (l15 : (List Int)) (v12 : Value) (v16 : Value) (J7 : IMem), r11_P_row.l0 q n8 s9 n10 l11 b14 l15 = some o20 ∧ q ≤ k ∧ Has σ [(0, pt bx0), (3, pt b1), (4, .int .u8 n8)] ∧ J4.le J7 ∧ Own J7 w (.tv v16 3 1 :: .bk bx0 135 [.string s9, .int .i64 n10, v12, .bool b14] :: .tv v12 163 6 :: .bk b1 163 [.int .u8 114, v16, (.slice none 0 0), (.slice none 0 0), .bool false, .bool false] :: F) ∧ SlR R_r11_Node J7 v12 l11 ∧ SlR (tInt' .i64) J7 v16 l15) ?_ ?_ k k _ _ (Nat.le_refl _) ⟨y2.1, y2.2.S, y2.2.At, y2.2.N, y2.2.Bad, [], y2_1v2, (.slice none 0 0), J4, hl22, Nat.le_refl _, ⟨rfl, rfl, rfl, trivial⟩, (ilr _), S, y2_1h2, (SlR.nil _ _)⟩)
  ·rintro σ w ⟨n8, s9, n10, l11, b14, l15, v12, v16, J7, H, _⟩; cases H
  rintro q18 σ w ⟨n8, s9, n10, l11, b14, l15, v12, v16, J7, H, hq33, hσ, hL19, S, h13, h17⟩
  have hG := hG.mono hL19
  rw [hσ.eq]
  rw [r11_P_row.l0] at H
  refine sq <| sr <| mv (pt bx0) rfl <| u rfl (x_nk rfl) <| u rfl (x_fa tf135_3 rfl) <| u rfl (x_ld tsc4 rfl (S.load 1 rfl 3 rfl)) <| u rfl (x_not' rfl) <| mv (.bool (!b14)) rfl ?_
  by_cases cc34 : b14 = true
  ·rw [if_pos cc34] at H
   refine gn rfl rfl rfl (noF cc34) <| gn rfl rfl rfl (noF cc34) <| u rfl (x_pickFV (v := .bool false) rfl (noF cc34) rfl) <| mv (.bool false) rfl <| gn rfl rfl rfl rfl <| gn rfl rfl rfl rfl <| u rfl (x_pickFV (v := .bool false) rfl rfl rfl) <| mv (.bool false) rfl <| gn rfl rfl rfl rfl <| gn rfl rfl rfl rfl <| u rfl (x_pickFV (v := .bool false) rfl rfl rfl) <| cF rfl rfl <| ex ⟨s9, n10, l11, b14, l15, v12, v16, J7, (si H), ⟨rfl, rfl, trivial⟩, hL19, S, h13, h17⟩
  rw [if_neg cc34] at H
  refine gu rfl rfl rfl (noT (vaF cc34)) (x_movV (v := .int .u8 n8) rfl) <| gu rfl rfl rfl (noT (vaF cc34)) (x_bin rfl rfl rfl) <| u rfl (x_pickTV (v := .bool (n8 != 0)) rfl (noT (vaF cc34)) rfl) <| mv (.bool (n8 != 0)) rfl ?_
  by_cases cc35 : n8 = 0
  ·rw [if_pos cc35] at H
   refine gn rfl rfl rfl (neF cc35) <| gn rfl rfl rfl (neF cc35) <| u rfl (x_pickFV (v := .bool false) rfl (neF cc35) rfl) <| mv (.bool false) rfl <| gn rfl rfl rfl rfl <| gn rfl rfl rfl rfl <| u rfl (x_pickFV (v := .bool false) rfl rfl rfl) <| cF rfl rfl <| ex ⟨s9, n10, l11, b14, l15, v12, v16, J7, (si H), ⟨rfl, rfl, trivial⟩, hL19, S, h13, h17⟩
  rw [if_neg cc35] at H
  refine gu rfl rfl rfl (neT cc35) (x_movV (v := .int .u8 n8) rfl) <| gu rfl rfl rfl (neT cc35) (x_bin rfl rfl rfl) <| u rfl (x_pickTV (v := .bool (n8 != 124)) rfl (neT cc35) rfl) <| mv (.bool (n8 != 124)) rfl ?_
  by_cases cc36 : n8 = 124
  ·rw [if_pos cc36] at H
   refine gn rfl rfl rfl (neF cc36) <| gn rfl rfl rfl (neF cc36) <| u rfl (x_pickFV (v := .bool false) rfl (neF cc36) rfl) <| cF rfl rfl <| ex ⟨s9, n10, l11, b14, l15, v12, v16, J7, (si H), ⟨rfl, rfl, trivial⟩, hL19, S, h13, h17⟩
  rw [if_neg cc36] at H
  refine gu rfl rfl rfl (neT cc36) (x_movV (v := .int .u8 n8) rfl) <| gu rfl rfl rfl (neT cc36) (x_bin rfl rfl rfl) <| u rfl (x_pickTV (v := .bool (n8 != 41)) rfl (neT cc36) rfl) ?_
  by_cases cc37 : n8 = 41
  ·rw [if_pos cc37] at H
   refine cF rfl (neF cc37) <| ex ⟨s9, n10, l11, b14, l15, v12, v16, J7, (si H), ⟨rfl, rfl, trivial⟩, hL19, S, h13, h17⟩
  rw [if_neg cc37] at H
  refine cT rfl (neT cc37) <| sk <| bk <| sq <| FW.anew [(0, pt bx0), (3, pt b1)] ⟨rfl, rfl, trivial⟩ fun σ => ?_
  have S := S.drew
  refine FW.regionD mixed ?_
  have hO := Hold.nil (w := { w with drawn := w.drawn + 1 })
  refine ap 0 rfl (by kernel_rfl) hO (fun w => x_fa tf163_1 rfl) ?_
  have hR38 := ilr J7
  refine ak (Stab J7 [.bk b1 163 [.int .u8 114, v16, (.slice none 0 0), (.slice none 0 0), .bool false, .bool false]]) 1 rfl (by kernel_rfl) hO (Stab.of S 3 rfl hR38) (fun w hS => x_ld tsc161 rfl (hS.load 0 rfl 1 rfl)) fun hO => am 2 (pt bx0) rfl (by kernel_rfl) hO <| AQ.one 3 [1] [true] (by kernel_rfl) rfl (by kernel_rfl) ?_
  obtain ⟨y39, hy40, H⟩ := obx H
  refine g rfl (cl fb144 (@ih_r11_P_part q18 (by omega) (T_r11_P.mk s9 n10 l11 b14) _ _ _ _ _ _ hG (S.sel 4 [1, 2, 0, 3] rfl) h13 hy40) rfl ?_)
  rintro _ w ⟨y39_1v2, J41, hJ42, rfl, y39_1h2, S⟩
  have h17 := h17.mono hJ42
  have hL19 := hL19.trans hJ42
  have hR38 := hR38.trans hJ42
  have hG := hG.mono hJ42
  refine andI (Hold.cons (Stab.of S 3 rfl hR38) Hold.nil) fun hO => AQ.one 4 [1] [true] (by kernel_rfl) rfl (by kernel_rfl) <| g rfl (o_bsl tsl161 tz3 rfl rfl rfl rfl (.one rfl PC.nil) rfl S fun b43 w S => ?_)
  obtain ⟨J44, hJ46, S, h45⟩ := S.freeze (r := (tInt' .i64)) (l := [y39.1]) 0 rfl ⟨[.int .i64 y39.1], _, rfl, rfl, rfl⟩ rfl rfl
  have h17 := h17.mono hJ46
  have y39_1h2 := y39_1h2.mono hJ46
  have hL19 := hL19.trans hJ46
  have hR38 := hR38.trans hJ46
  have hG := hG.mono hJ46
  refine andI (Hold.cons (Stab.of S 4 rfl hR38) Hold.nil) fun hO => AQ.one 5 [1] [false] (by kernel_rfl) rfl (by kernel_rfl) ?_
  obtain ⟨l47, h49, H⟩ := obx H
  refine g rfl (o_appD (r := (tInt' .i64)) tsl161 rfl tz3 rfl rfl S 3 rfl rfl h17 h45 h49 fun v48 w J51 hJ52 S h50 => ?_)
  have y39_1h2 := y39_1h2.mono hJ52
  have hL19 := hL19.trans hJ52
  have hG := hG.mono hJ52
  refine andI Hold.nil fun hO => ap 6 rfl (by kernel_rfl) hO (fun w => x_fa tf163_1 rfl) <| AQ.one 7 [] [] (by kernel_rfl) rfl (by kernel_rfl) <| g rfl (o_st tone161 S 4 rfl rfl rfl h50.one fun w S => andI Hold.nil fun hO => AQ.done (by kernel_rfl) (FW.anew [(0, pt bx0), (3, pt b1)] ⟨rfl, rfl, trivial⟩ fun σ => rg (mv (pt bx0) rfl ?_)))
  obtain ⟨y53, hy54, H⟩ := obx H
  refine g rfl (cl fb87 (@r11_P_sign.ok q18 y39.2 _ _ _ _ _ _ hG (S.sel 5 [1, 2, 0, 3, 4] rfl) y39_1h2 hy54) rfl ?_)
  rintro _ w ⟨y53_1v2, J55, hJ56, rfl, y53_1h2, S⟩
  have h50 := h50.mono hJ56
  have hL19 := hL19.trans hJ56
  refine mv (.int .u8 y53.1) rfl ⟨q18, Nat.le_refl _, y53.1, y53.2.S, y53.2.At, y53.2.N, y53.2.Bad, l47, y53_1v2, v48, J55, H, (Nat.le_of_succ_le hq33), ⟨rfl, rfl, rfl, trivial⟩, hL19, (S.sel 5 [3, 0, 1, 4] rfl), y53_1h2, h50⟩
 rintro σ w ⟨s24, n25, l26, b29, l30, v27, v31, J23, ho, hσ, hL19, S, h28, h32⟩
 subst ho
 have H := HO21
 try dsimp only at H
 have hI := hI.trans hL19
 have hG := hG.mono hL19
 rw [hσ.eq]
 refine sr <| mv (pt bx0) rfl <| u rfl (x_ldA tag163 rfl (S.loadW 3 rfl) rfl) ?_
 obtain ⟨y57, hy58, H⟩ := obx H
 refine g rfl (cl fb120 (@r11_P_put.ok k (T_r11_P.mk s24 n25 l26 b29) (T_r11_Node.mk 114 l30 [] [] false false) _ _ _ _ _ _ _ _ _ hG (S.sel 4 [1, 2, 0, 3] rfl) h28 h32 (SlR.nil _ _) (SlR.nil _ _) hy58) rfl ?_)
 rintro _ w ⟨y57_1v2, J59, hJ60, rfl, y57_1h2, S⟩
 have hI := hI.trans hJ60
 refine mv (.int .i64 y57.1) rfl <| rt ?_
 obtain rfl := si H
 exact ⟨_, ⟨_, rfl, rfl⟩, ⟨y57_1v2, J59, hI, rfl, y57_1h2, (S.sel 4 [0, 1] rfl)⟩⟩
theorem r11_P_row.zero : r11_P_row.C 0 := by
  intro _ _ _ _ _ _ _ _ _ _ H; cases H
theorem r11_P_part.step (k : Nat) (ih_r11_P_choices : ∀ m, m ≤ k → r11_P_choices.C m) : r11_P_part.C (k + 1) := by
 intro x0 x0v2 bx0 F I w r hG S x0h2 H
 have hI := ilr I
 rw [r11_P_part.f] at H
 refine Calls.ofFW (args := [pt bx0]) Tryz.func144 rfl rfl <| sr <| mv (.int .i64 0) rfl <| sr <| mv (pt bx0) rfl ?_
 obtain ⟨y1, hy2, H⟩ := obx H
 refine g rfl (cl fb87 (@r11_P_sign.ok k x0 _ _ _ _ _ _ hG S x0h2 hy2) rfl ?_)
 rintro _ w ⟨y1_1v2, J3, hJ4, rfl, y1_1h2, S⟩
 have hI := hI.trans hJ4
 have hG := hG.mono hJ4
 refine mv (.int .u8 y1.1) rfl <| sr <| mv (.int .i64 0) rfl <| sq ?_
 obtain ⟨o13, H, HO14⟩ := obx H
 have hL15 := ilr J3
 refine FW.cutN (fun σ w => ∃ (n6 : Int) (s7 : ByteArray) (n8 : Int) (l9 : (List T_r11_Node)) (b12 : Bool) (v10 : Value) (J5 : IMem), (.inr (n6, s7, n8, l9, b12)) = o13 ∧ Has σ [(0, pt bx0), (4, .int .i64 n6)] ∧ J3.le J5 ∧ Own J5 w (.bk bx0 135 [.string s7, .int .i64 n8, v10, .bool b12] :: .tv v10 163 6 :: F) ∧ SlR R_r11_Node J5 v10 l9) ?_ ?_
 ·refine bk <| sr <| mv (.int .u8 y1.1) rfl ?_
  obtain ⟨y16, hy17, H⟩ := obx H
  refine g rfl (cl fb150 (@r11_digit.ok k y1.1 _ _ _ _ hG S hy17) rfl ?_)
  rintro _ w ⟨rfl, S⟩
  refine mv (.bool y16) rfl ?_
  by_cases cc18 : y16 = true
  ·rw [if_pos cc18] at H
   refine cT rfl cc18 <| sq <| FW.anew [(0, pt bx0)] ⟨rfl, trivial⟩ fun σ => rg <| mv (pt bx0) rfl ?_
   obtain ⟨y19, hy20, H⟩ := obx H
   refine g rfl (cl fb151 (@r11_P_num.ok k y1.2 _ _ _ _ _ _ hG S y1_1h2 hy20) rfl ?_)
   rintro _ w ⟨y19_1v2, J21, hJ22, rfl, y19_1h2, S⟩
   have hL15 := hL15.trans hJ22
   have hG := hG.mono hJ22
   refine mv (.int .i64 y19.1) rfl <| rg <| mv (pt bx0) rfl <| mv (.int .i64 y19.1) rfl <| g rfl (o_bsl tsl161 tz3 rfl rfl rfl rfl (.one rfl PC.nil) rfl S fun b23 w S => ?_)
   obtain ⟨J24, hJ26, S, h25⟩ := S.freeze (r := (tInt' .i64)) (l := [y19.1]) 0 rfl ⟨[.int .i64 y19.1], _, rfl, rfl, rfl⟩ rfl rfl
   have y19_1h2 := y19_1h2.mono hJ26
   have hL15 := hL15.trans hJ26
   have hG := hG.mono hJ26
   refine mv (.int .i64 y19.1) rfl <| g rfl (o_bsl tsl161 tz3 rfl rfl rfl rfl (.one rfl PC.nil) rfl S fun b27 w S => ?_)
   obtain ⟨J28, hJ30, S, h29⟩ := S.freeze (r := (tInt' .i64)) (l := [y19.1]) 0 rfl ⟨[.int .i64 y19.1], _, rfl, rfl, rfl⟩ rfl rfl
   have h25 := h25.mono hJ30
   have y19_1h2 := y19_1h2.mono hJ30
   have hL15 := hL15.trans hJ30
   have hG := hG.mono hJ30
   refine u rfl (x_bld tz163 tpl163 rfl (.one rfl (.one h25.one (.one h29.one (.one rfl PC.nil)))) rfl) ?_
   obtain ⟨y31, hy32, H⟩ := obx H
   refine g rfl (cl fb120 (@r11_P_put.ok k y19.2 (T_r11_Node.mk 115 [] [y19.1] [y19.1] false true) _ _ _ _ _ _ _ _ _ hG (S.sel 4 [2, 3, 0, 1] rfl) y19_1h2 (SlR.nil _ _) h25 h29 hy32) rfl ?_)
   rintro _ w ⟨y31_1v2, J33, hJ34, rfl, y31_1h2, S⟩
   have hL15 := hL15.trans hJ34
   refine mv (.int .i64 y31.1) rfl ⟨y31.1, y31.2.S, y31.2.At, y31.2.N, y31.2.Bad, y31_1v2, J33, (si H), ⟨rfl, rfl, trivial⟩, hL15, (S.sel 4 [0, 1] rfl), y31_1h2⟩
  rw [if_neg cc18] at H
  refine cF rfl (vaF cc18) <| sq <| FW.anew [(0, pt bx0), (3, .int .u8 y1.1)] ⟨rfl, rfl, trivial⟩ fun σ => rg <| mv (.int .u8 y1.1) rfl <| u rfl (x_bin rfl rfl rfl) <| mv (.bool (y1.1 == 46)) rfl ?_
  by_cases cc35 : y1.1 = 46
  ·rw [if_pos cc35] at H
   refine gn rfl rfl rfl (eqT cc35) <| gn rfl rfl rfl (eqT cc35) <| u rfl (x_pickTV (v := .bool true) rfl (eqT cc35) rfl) <| mv (.bool true) rfl <| gn rfl rfl rfl rfl <| gn rfl rfl rfl rfl <| u rfl (x_pickTV (v := .bool true) rfl rfl rfl) <| mv (.bool true) rfl <| cT rfl rfl <| sq <| FW.anew [(0, pt bx0), (3, .int .u8 y1.1)] ⟨rfl, rfl, trivial⟩ fun σ => rg <| mv (pt bx0) rfl <| mv (pt bx0) rfl <| u rfl (x_nk rfl) <| u rfl (x_fa tf135_1 rfl) <| u rfl (x_ld tsc3 rfl (S.load 0 rfl 1 rfl)) <| u rfl (x_bin rfl rfl rfl) <| u rfl (x_nk rfl) <| u rfl (x_fa tf135_1 rfl) <| g rfl (o_st tone3 S 0 rfl rfl rfl rfl fun w S => FW.anew [(0, pt bx0), (3, .int .u8 y1.1)] ⟨rfl, rfl, trivial⟩ fun σ => rg (mv (pt bx0) rfl (mv (.int .u8 y1.1) rfl (u rfl (x_bld tz163 tpl163 rfl (.one rfl PC.nil) rfl) ?_))))
   obtain ⟨y36, hy37, H⟩ := obx H
   refine g rfl (cl fb120 (@r11_P_put.ok k (T_r11_P.mk y1.2.S (i64 (y1.2.At + 1)) y1.2.N y1.2.Bad) (T_r11_Node.mk y1.1 [] [] [] false false) _ _ _ _ _ _ _ _ _ hG S y1_1h2 (SlR.nil _ _) (SlR.nil _ _) (SlR.nil _ _) hy37) rfl ?_)
   rintro _ w ⟨y36_1v2, J38, hJ39, rfl, y36_1h2, S⟩
   have hL15 := hL15.trans hJ39
   refine mv (.int .i64 y36.1) rfl ⟨y36.1, y36.2.S, y36.2.At, y36.2.N, y36.2.Bad, y36_1v2, J38, (si H), ⟨rfl, rfl, trivial⟩, hL15, S, y36_1h2⟩
  rw [if_neg cc35] at H
  refine gu rfl rfl rfl (eqF cc35) (x_movV (v := .int .u8 y1.1) rfl) <| gu rfl rfl rfl (eqF cc35) (x_bin rfl rfl rfl) <| u rfl (x_pickFV (v := .bool (y1.1 == 94)) rfl (eqF cc35) rfl) <| mv (.bool (y1.1 == 94)) rfl ?_
  by_cases cc40 : y1.1 = 94
  ·rw [if_pos cc40] at H
   refine gn rfl rfl rfl (eqT cc40) <| gn rfl rfl rfl (eqT cc40) <| u rfl (x_pickTV (v := .bool true) rfl (eqT cc40) rfl) <| mv (.bool true) rfl <| cT rfl rfl <| sq <| FW.anew [(0, pt bx0), (3, .int .u8 y1.1)] ⟨rfl, rfl, trivial⟩ fun σ => rg <| mv (pt bx0) rfl <| mv (pt bx0) rfl <| u rfl (x_nk rfl) <| u rfl (x_fa tf135_1 rfl) <| u rfl (x_ld tsc3 rfl (S.load 0 rfl 1 rfl)) <| u rfl (x_bin rfl rfl rfl) <| u rfl (x_nk rfl) <| u rfl (x_fa tf135_1 rfl) <| g rfl (o_st tone3 S 0 rfl rfl rfl rfl fun w S => FW.anew [(0, pt bx0), (3, .int .u8 y1.1)] ⟨rfl, rfl, trivial⟩ fun σ => rg (mv (pt bx0) rfl (mv (.int .u8 y1.1) rfl (u rfl (x_bld tz163 tpl163 rfl (.one rfl PC.nil) rfl) ?_))))
   obtain ⟨y41, hy42, H⟩ := obx H
   refine g rfl (cl fb120 (@r11_P_put.ok k (T_r11_P.mk y1.2.S (i64 (y1.2.At + 1)) y1.2.N y1.2.Bad) (T_r11_Node.mk y1.1 [] [] [] false false) _ _ _ _ _ _ _ _ _ hG S y1_1h2 (SlR.nil _ _) (SlR.nil _ _) (SlR.nil _ _) hy42) rfl ?_)
   rintro _ w ⟨y41_1v2, J43, hJ44, rfl, y41_1h2, S⟩
   have hL15 := hL15.trans hJ44
   refine mv (.int .i64 y41.1) rfl ⟨y41.1, y41.2.S, y41.2.At, y41.2.N, y41.2.Bad, y41_1v2, J43, (si H), ⟨rfl, rfl, trivial⟩, hL15, S, y41_1h2⟩
  rw [if_neg cc40] at H
  refine gu rfl rfl rfl (eqF cc40) (x_movV (v := .int .u8 y1.1) rfl) <| gu rfl rfl rfl (eqF cc40) (x_bin rfl rfl rfl) <| u rfl (x_pickFV (v := .bool (y1.1 == 36)) rfl (eqF cc40) rfl) <| mv (.bool (y1.1 == 36)) rfl ?_
  by_cases cc45 : y1.1 = 36
  ·rw [if_pos cc45] at H
   refine cT rfl (eqT cc45) <| sq <| FW.anew [(0, pt bx0), (3, .int .u8 y1.1)] ⟨rfl, rfl, trivial⟩ fun σ => rg <| mv (pt bx0) rfl <| mv (pt bx0) rfl <| u rfl (x_nk rfl) <| u rfl (x_fa tf135_1 rfl) <| u rfl (x_ld tsc3 rfl (S.load 0 rfl 1 rfl)) <| u rfl (x_bin rfl rfl rfl) <| u rfl (x_nk rfl) <| u rfl (x_fa tf135_1 rfl) <| g rfl (o_st tone3 S 0 rfl rfl rfl rfl fun w S => FW.anew [(0, pt bx0), (3, .int .u8 y1.1)] ⟨rfl, rfl, trivial⟩ fun σ => rg (mv (pt bx0) rfl (mv (.int .u8 y1.1) rfl (u rfl (x_bld tz163 tpl163 rfl (.one rfl PC.nil) rfl) ?_))))
   obtain ⟨y46, hy47, H⟩ := obx H
   refine g rfl (cl fb120 (@r11_P_put.ok k (T_r11_P.mk y1.2.S (i64 (y1.2.At + 1)) y1.2.N y1.2.Bad) (T_r11_Node.mk y1.1 [] [] [] false false) _ _ _ _ _ _ _ _ _ hG S y1_1h2 (SlR.nil _ _) (SlR.nil _ _) (SlR.nil _ _) hy47) rfl ?_)
   rintro _ w ⟨y46_1v2, J48, hJ49, rfl, y46_1h2, S⟩
   have hL15 := hL15.trans hJ49
   refine mv (.int .i64 y46.1) rfl ⟨y46.1, y46.2.S, y46.2.At, y46.2.N, y46.2.Bad, y46_1v2, J48, (si H), ⟨rfl, rfl, trivial⟩, hL15, S, y46_1h2⟩
  rw [if_neg cc45] at H
  refine cF rfl (eqF cc45) <| sq <| FW.anew [(0, pt bx0), (3, .int .u8 y1.1)] ⟨rfl, rfl, trivial⟩ fun σ => rg <| mv (.int .u8 y1.1) rfl <| u rfl (x_bin rfl rfl rfl) <| mv (.bool (y1.1 == 91)) rfl ?_
  by_cases cc50 : y1.1 = 91
  ·rw [if_pos cc50] at H
   refine cT rfl (eqT cc50) <| sr <| mv (pt bx0) rfl <| mv (pt bx0) rfl <| u rfl (x_nk rfl) <| u rfl (x_fa tf135_1 rfl) <| u rfl (x_ld tsc3 rfl (S.load 0 rfl 1 rfl)) <| u rfl (x_bin rfl rfl rfl) <| u rfl (x_nk rfl) <| u rfl (x_fa tf135_1 rfl) <| g rfl (o_st tone3 S 0 rfl rfl rfl rfl fun w S => FW.anew [(0, pt bx0)] ⟨rfl, trivial⟩ fun σ => rg (mv (pt bx0) rfl ?_))
   obtain ⟨y51, hy52, H⟩ := obx H
   refine g rfl (cl fb152 (@r11_P_set.ok k (T_r11_P.mk y1.2.S (i64 (y1.2.At + 1)) y1.2.N y1.2.Bad) _ _ _ _ _ _ hG S y1_1h2 hy52) rfl ?_)
   rintro _ w ⟨y51_1v2, J53, hJ54, rfl, y51_1h2, S⟩
   have hL15 := hL15.trans hJ54
   refine mv (.int .i64 y51.1) rfl ⟨y51.1, y51.2.S, y51.2.At, y51.2.N, y51.2.Bad, y51_1v2, J53, (si H), ⟨rfl, rfl, trivial⟩, hL15, S, y51_1h2⟩
  rw [if_neg cc50] at H
  refine cF rfl (eqF cc50) <| sr <| mv (.int .u8 y1.1) rfl <| u rfl (x_bin rfl rfl rfl) <| mv (.bool (y1.1 == 40)) rfl ?_
  by_cases cc55 : y1.1 = 40
  ·rw [if_pos cc55] at H
   refine cT rfl (eqT cc55) <| sr <| mv (pt bx0) rfl <| mv (pt bx0) rfl <| u rfl (x_nk rfl) <| u rfl (x_fa tf135_1 rfl) <| u rfl (x_ld tsc3 rfl (S.load 0 rfl 1 rfl)) <| u rfl (x_bin rfl rfl rfl) <| u rfl (x_nk rfl) <| u rfl (x_fa tf135_1 rfl) <| g rfl (o_st tone3 S 0 rfl rfl rfl rfl fun w S => sq (FW.anew [(0, pt bx0)] ⟨rfl, trivial⟩ fun σ => rg (mv (pt bx0) rfl ?_)))
   obtain ⟨y56, hy57, H⟩ := obx H
   refine g rfl (cl fb86 (@ih_r11_P_choices k (by omega) (T_r11_P.mk y1.2.S (i64 (y1.2.At + 1)) y1.2.N y1.2.Bad) _ _ _ _ _ _ hG S y1_1h2 hy57) rfl ?_)
   rintro _ w ⟨y56_1v2, J58, hJ59, rfl, y56_1h2, S⟩
   have hI := hI.trans hJ59
   have hL15 := hL15.trans hJ59
   have hG := hG.mono hJ59
   refine mv (.int .i64 y56.1) rfl <| sq <| sr <| mv (pt bx0) rfl ?_
   obtain ⟨y60, hy61, H⟩ := obx H
   refine g rfl (cl fb87 (@r11_P_sign.ok k y56.2 _ _ _ _ _ _ hG S y56_1h2 hy61) rfl ?_)
   rintro _ w ⟨y60_1v2, J62, hJ63, rfl, y60_1h2, S⟩
   have hI := hI.trans hJ63
   have hL15 := hL15.trans hJ63
   refine u rfl (x_bin rfl rfl rfl) ?_
   by_cases cc64 : y60.1 = 41
   ·rw [if_pos cc64] at H
    refine cF rfl (neF cc64) <| sk <| rg <| mv (pt bx0) rfl <| mv (pt bx0) rfl <| u rfl (x_nk rfl) <| u rfl (x_fa tf135_1 rfl) <| u rfl (x_ld tsc3 rfl (S.load 0 rfl 1 rfl)) <| u rfl (x_bin rfl rfl rfl) <| u rfl (x_nk rfl) <| u rfl (x_fa tf135_1 rfl) <| g rfl (o_st tone3 S 0 rfl rfl rfl rfl fun w S => ⟨y56.1, y60.2.S, (i64 (y60.2.At + 1)), y60.2.N, y60.2.Bad, y60_1v2, J62, (si H), ⟨rfl, rfl, trivial⟩, hL15, S, y60_1h2⟩)
   rw [if_neg cc64] at H
   refine cT rfl (neT cc64) <| sr <| mv (pt bx0) rfl <| u rfl (x_nk rfl) <| u rfl (x_fa tf135_3 rfl) <| g rfl (o_st tone4 S 0 rfl rfl rfl rfl fun w S => sq (FW.anew [] trivial fun σ => rg (mv (.int .i64 0) rfl (rt ?_))))
   obtain rfl := si H
   obtain rfl := si HO14
   exact ⟨_, ⟨_, rfl, rfl⟩, ⟨y60_1v2, J62, hI, rfl, y60_1h2, S⟩⟩
  rw [if_neg cc55] at H
  refine cF rfl (eqF cc55) <| sr <| mv (pt bx0) rfl <| u rfl (x_nk rfl) <| u rfl (x_fa tf135_3 rfl) <| g rfl (o_st tone4 S 0 rfl rfl rfl rfl fun w S => sq (FW.anew [] trivial fun σ => rg (mv (.int .i64 0) rfl (rt ?_))))
  obtain rfl := si H
  obtain rfl := si HO14
  exact ⟨_, ⟨_, rfl, rfl⟩, ⟨y1_1v2, J3, hI, rfl, y1_1h2, S⟩⟩
 rintro σ w ⟨n6, s7, n8, l9, b12, v10, J5, ho, hσ, hL15, S, h11⟩
 subst ho
 have H := HO14
 try dsimp only at H
 have hI := hI.trans hL15
 have hG := hG.mono hL15
 rw [hσ.eq]
 refine sr <| mv (pt bx0) rfl ?_
 obtain ⟨y65, hy66, H⟩ := obx H
 refine g rfl (cl fb87 (@r11_P_sign.ok k (T_r11_P.mk s7 n8 l9 b12) _ _ _ _ _ _ hG S h11 hy66) rfl ?_)
 rintro _ w ⟨y65_1v2, J67, hJ68, rfl, y65_1h2, S⟩
 have hI := hI.trans hJ68
 have hG := hG.mono hJ68
 refine mv (.int .u8 y65.1) rfl <| sq <| bk ?_
 obtain ⟨o80, hl82, HO81⟩ := obx H
 refine FW.cutX 1 (fun σ w => ∃ (n84 : Int) (s85 : ByteArray) (n86 : Int) (l87 : (List T_r11_Node)) (b90 : Bool) (v88 : Value) (J83 : IMem), (n84, s85, n86, l87, b90) = o80 ∧ Has σ [(4, .int .i64 n84)] ∧ J67.le J83 ∧ Own J83 w (.bk bx0 135 [.string s85, .int .i64 n86, v88, .bool b90] :: .tv v88 163 6 :: F) ∧ SlR R_r11_Node J83 v88 l87) ?_ ?_
 ·refine FW.loop k (FL.ind (fun q σ w => ∃ (n70 : Int) (n71 : Int) (s72 : ByteArray) (n73 : Int) (l74 : (List T_r11_Node)) (b77 : Bool) (v75 : Value) (J69 : IMem), r11_P_part.l0 q n70 n71 s72 n73 l74 b77 = some o80 ∧ q ≤ k ∧ Has σ [(0, pt bx0), (3, .int .u8 n70), (4, .int .i64 n71)] ∧ J67.le J69 ∧ Own J69 w (.bk bx0 135 [.string s72, .int .i64 n73, v75, .bool b77] :: .tv v75 163 6 :: F) ∧ SlR R_r11_Node J69 v75 l74) ?_ ?_ k k _ _ (Nat.le_refl _) ⟨y65.1, n6, y65.2.S, y65.2.At, y65.2.N, y65.2.Bad, y65_1v2, J67, hl82, Nat.le_refl _, ⟨rfl, rfl, rfl, trivial⟩, (ilr _), S, y65_1h2⟩)
  ·rintro σ w ⟨n70, n71, s72, n73, l74, b77, v75, J69, H, _⟩; cases H
  rintro q78 σ w ⟨n70, n71, s72, n73, l74, b77, v75, J69, H, hq91, hσ, hL79, S, h76⟩
  have hG := hG.mono hL79
  rw [hσ.eq]
  rw [r11_P_part.l0] at H
  refine sq <| sr <| mv (pt bx0) rfl <| u rfl (x_nk rfl) <| u rfl (x_fa tf135_3 rfl) <| u rfl (x_ld tsc4 rfl (S.load 0 rfl 3 rfl)) <| u rfl (x_not' rfl) <| mv (.bool (!b77)) rfl ?_
  by_cases cc92 : b77 = true
  ·rw [if_pos cc92] at H
   refine gn rfl rfl rfl (noF cc92) <| gn rfl rfl rfl (noF cc92) <| gn rfl rfl rfl (noF cc92) <| OK.gu rfl rfl rfl <| OK.gu rfl rfl rfl <| gn rfl rfl rfl (noF cc92) <| gn rfl rfl rfl (noF cc92) <| OK.gu rfl rfl rfl <| OK.gu rfl rfl rfl <| gn rfl rfl rfl (noF cc92) <| u rfl (x_pickFV (v := .bool false) rfl (noF cc92) rfl) <| cF rfl rfl <| ex ⟨n71, s72, n73, l74, b77, v75, J69, (si H), ⟨rfl, trivial⟩, hL79, S, h76⟩
  rw [if_neg cc92] at H
  refine gu rfl rfl rfl (noT (vaF cc92)) (x_movV (v := .int .u8 n70) rfl) <| gu rfl rfl rfl (noT (vaF cc92)) (x_bin rfl rfl rfl) <| gu rfl rfl rfl (noT (vaF cc92)) (x_movV (v := .bool (n70 == 42)) rfl) ?_
  by_cases cc93 : n70 = 42
  ·rw [if_pos cc93] at H
   refine gn rfl rfl rfl (eqT cc93) <| gn rfl rfl rfl (eqT cc93) <| gu rfl rfl rfl (noT (vaF cc92)) (x_pickTV (v := .bool true) rfl (eqT cc93) rfl) <| gu rfl rfl rfl (noT (vaF cc92)) (x_movV (v := .bool true) rfl) <| gn rfl rfl rfl rfl <| gn rfl rfl rfl rfl <| gu rfl rfl rfl (noT (vaF cc92)) (x_pickTV (v := .bool true) rfl rfl rfl) <| u rfl (x_pickTV (v := .bool true) rfl (noT (vaF cc92)) rfl) <| cT rfl rfl <| sk <| bk <| sq <| FW.anew [(0, pt bx0), (3, .int .u8 n70), (4, .int .i64 n71)] ⟨rfl, rfl, rfl, trivial⟩ fun σ => rg <| mv (pt bx0) rfl <| mv (pt bx0) rfl <| u rfl (x_nk rfl) <| u rfl (x_fa tf135_1 rfl) <| u rfl (x_ld tsc3 rfl (S.load 0 rfl 1 rfl)) <| u rfl (x_bin rfl rfl rfl) <| u rfl (x_nk rfl) <| u rfl (x_fa tf135_1 rfl) <| g rfl (o_st tone3 S 0 rfl rfl rfl rfl fun w S => sq (FW.anew [(0, pt bx0), (3, .int .u8 n70), (4, .int .i64 n71)] ⟨rfl, rfl, rfl, trivial⟩ fun σ => rg (mv (pt bx0) rfl (mv (.int .u8 n70) rfl (mv (.int .i64 n71) rfl (g rfl (o_bsl tsl161 tz3 rfl rfl rfl rfl (.one rfl PC.nil) rfl S fun b94 w S => ?_)))))))
   obtain ⟨J95, hJ97, S, h96⟩ := S.freeze (r := (tInt' .i64)) (l := [n71]) 0 rfl ⟨[.int .i64 n71], _, rfl, rfl, rfl⟩ rfl rfl
   have h76 := h76.mono hJ97
   have hL79 := hL79.trans hJ97
   have hG := hG.mono hJ97
   refine u rfl (x_bld tz163 tpl163 rfl (.one rfl (.one h96.one PC.nil)) rfl) ?_
   obtain ⟨y98, hy99, H⟩ := obx H
   refine g rfl (cl fb120 (@r11_P_put.ok q78 (T_r11_P.mk s72 (i64 (n73 + 1)) l74 b77) (T_r11_Node.mk n70 [n71] [] [] false false) _ _ _ _ _ _ _ _ _ hG (S.sel 3 [1, 2, 0] rfl) h76 h96 (SlR.nil _ _) (SlR.nil _ _) hy99) rfl ?_)
   rintro _ w ⟨y98_1v2, J100, hJ101, rfl, y98_1h2, S⟩
   have hL79 := hL79.trans hJ101
   have hG := hG.mono hJ101
   refine mv (.int .i64 y98.1) rfl <| FW.anew [(0, pt bx0), (4, .int .i64 y98.1)] ⟨rfl, rfl, trivial⟩ fun σ => rg <| mv (pt bx0) rfl ?_
   obtain ⟨y102, hy103, H⟩ := obx H
   refine g rfl (cl fb87 (@r11_P_sign.ok q78 y98.2 _ _ _ _ _ _ hG S y98_1h2 hy103) rfl ?_)
   rintro _ w ⟨y102_1v2, J104, hJ105, rfl, y102_1h2, S⟩
   have hL79 := hL79.trans hJ105
   refine mv (.int .u8 y102.1) rfl ⟨q78, Nat.le_refl _, y102.1, y98.1, y102.2.S, y102.2.At, y102.2.N, y102.2.Bad, y102_1v2, J104, H, (Nat.le_of_succ_le hq91), ⟨rfl, rfl, rfl, trivial⟩, hL79, (S.sel 3 [0, 1] rfl), y102_1h2⟩
  rw [if_neg cc93] at H
  refine gu rfl rfl rfl (eqF cc93) (x_movV (v := .int .u8 n70) rfl) <| gu rfl rfl rfl (eqF cc93) (x_bin rfl rfl rfl) <| gu rfl rfl rfl (noT (vaF cc92)) (x_pickFV (v := .bool (n70 == 43)) rfl (eqF cc93) rfl) <| gu rfl rfl rfl (noT (vaF cc92)) (x_movV (v := .bool (n70 == 43)) rfl) ?_
  by_cases cc106 : n70 = 43
  ·rw [if_pos cc106] at H
   refine gn rfl rfl rfl (eqT cc106) <| gn rfl rfl rfl (eqT cc106) <| gu rfl rfl rfl (noT (vaF cc92)) (x_pickTV (v := .bool true) rfl (eqT cc106) rfl) <| u rfl (x_pickTV (v := .bool true) rfl (noT (vaF cc92)) rfl) <| cT rfl rfl <| sk <| bk <| sq <| FW.anew [(0, pt bx0), (3, .int .u8 n70), (4, .int .i64 n71)] ⟨rfl, rfl, rfl, trivial⟩ fun σ => rg <| mv (pt bx0) rfl <| mv (pt bx0) rfl <| u rfl (x_nk rfl) <| u rfl (x_fa tf135_1 rfl) <| u rfl (x_ld tsc3 rfl (S.load 0 rfl 1 rfl)) <| u rfl (x_bin rfl rfl rfl) <| u rfl (x_nk rfl) <| u rfl (x_fa tf135_1 rfl) <| g rfl (o_st tone3 S 0 rfl rfl rfl rfl fun w S => sq (FW.anew [(0, pt bx0), (3, .int .u8 n70), (4, .int .i64 n71)] ⟨rfl, rfl, rfl, trivial⟩ fun σ => rg (mv (pt bx0) rfl (mv (.int .u8 n70) rfl (mv (.int .i64 n71) rfl (g rfl (o_bsl tsl161 tz3 rfl rfl rfl rfl (.one rfl PC.nil) rfl S fun b107 w S => ?_)))))))
   obtain ⟨J108, hJ110, S, h109⟩ := S.freeze (r := (tInt' .i64)) (l := [n71]) 0 rfl ⟨[.int .i64 n71], _, rfl, rfl, rfl⟩ rfl rfl
   have h76 := h76.mono hJ110
   have hL79 := hL79.trans hJ110
   have hG := hG.mono hJ110
   refine u rfl (x_bld tz163 tpl163 rfl (.one rfl (.one h109.one PC.nil)) rfl) ?_
   obtain ⟨y111, hy112, H⟩ := obx H
   refine g rfl (cl fb120 (@r11_P_put.ok q78 (T_r11_P.mk s72 (i64 (n73 + 1)) l74 b77) (T_r11_Node.mk n70 [n71] [] [] false false) _ _ _ _ _ _ _ _ _ hG (S.sel 3 [1, 2, 0] rfl) h76 h109 (SlR.nil _ _) (SlR.nil _ _) hy112) rfl ?_)
   rintro _ w ⟨y111_1v2, J113, hJ114, rfl, y111_1h2, S⟩
   have hL79 := hL79.trans hJ114
   have hG := hG.mono hJ114
   refine mv (.int .i64 y111.1) rfl <| FW.anew [(0, pt bx0), (4, .int .i64 y111.1)] ⟨rfl, rfl, trivial⟩ fun σ => rg <| mv (pt bx0) rfl ?_
   obtain ⟨y115, hy116, H⟩ := obx H
   refine g rfl (cl fb87 (@r11_P_sign.ok q78 y111.2 _ _ _ _ _ _ hG S y111_1h2 hy116) rfl ?_)
   rintro _ w ⟨y115_1v2, J117, hJ118, rfl, y115_1h2, S⟩
   have hL79 := hL79.trans hJ118
   refine mv (.int .u8 y115.1) rfl ⟨q78, Nat.le_refl _, y115.1, y111.1, y115.2.S, y115.2.At, y115.2.N, y115.2.Bad, y115_1v2, J117, H, (Nat.le_of_succ_le hq91), ⟨rfl, rfl, rfl, trivial⟩, hL79, (S.sel 3 [0, 1] rfl), y115_1h2⟩
  rw [if_neg cc106] at H
  refine gu rfl rfl rfl (eqF cc106) (x_movV (v := .int .u8 n70) rfl) <| gu rfl rfl rfl (eqF cc106) (x_bin rfl rfl rfl) <| gu rfl rfl rfl (noT (vaF cc92)) (x_pickFV (v := .bool (n70 == 63)) rfl (eqF cc106) rfl) <| u rfl (x_pickTV (v := .bool (n70 == 63)) rfl (noT (vaF cc92)) rfl) ?_
  by_cases cc119 : n70 = 63
  ·rw [if_pos cc119] at H
   refine cT rfl (eqT cc119) <| sk <| bk <| sq <| FW.anew [(0, pt bx0), (3, .int .u8 n70), (4, .int .i64 n71)] ⟨rfl, rfl, rfl, trivial⟩ fun σ => rg <| mv (pt bx0) rfl <| mv (pt bx0) rfl <| u rfl (x_nk rfl) <| u rfl (x_fa tf135_1 rfl) <| u rfl (x_ld tsc3 rfl (S.load 0 rfl 1 rfl)) <| u rfl (x_bin rfl rfl rfl) <| u rfl (x_nk rfl) <| u rfl (x_fa tf135_1 rfl) <| g rfl (o_st tone3 S 0 rfl rfl rfl rfl fun w S => sq (FW.anew [(0, pt bx0), (3, .int .u8 n70), (4, .int .i64 n71)] ⟨rfl, rfl, rfl, trivial⟩ fun σ => rg (mv (pt bx0) rfl (mv (.int .u8 n70) rfl (mv (.int .i64 n71) rfl (g rfl (o_bsl tsl161 tz3 rfl rfl rfl rfl (.one rfl PC.nil) rfl S fun b120 w S => ?_)))))))
   obtain ⟨J121, hJ123, S, h122⟩ := S.freeze (r := (tInt' .i64)) (l := [n71]) 0 rfl ⟨[.int .i64 n71], _, rfl, rfl, rfl⟩ rfl rfl
   have h76 := h76.mono hJ123
   have hL79 := hL79.trans hJ123
   have hG := hG.mono hJ123
   refine u rfl (x_bld tz163 tpl163 rfl (.one rfl (.one h122.one PC.nil)) rfl) ?_
   obtain ⟨y124, hy125, H⟩ := obx H
   refine g rfl (cl fb120 (@r11_P_put.ok q78 (T_r11_P.mk s72 (i64 (n73 + 1)) l74 b77) (T_r11_Node.mk n70 [n71] [] [] false false) _ _ _ _ _ _ _ _ _ hG (S.sel 3 [1, 2, 0] rfl) h76 h122 (SlR.nil _ _) (SlR.nil _ _) hy125) rfl ?_)
   rintro _ w ⟨y124_1v2, J126, hJ127, rfl, y124_1h2, S⟩
   have hL79 := hL79.trans hJ127
   have hG := hG.mono hJ127
   refine mv (.int .i64 y124.1) rfl <| FW.anew [(0, pt bx0), (4, .int .i64 y124.1)] ⟨rfl, rfl, trivial⟩ fun σ => rg <| mv (pt bx0) rfl ?_
   obtain ⟨y128, hy129, H⟩ := obx H
   refine g rfl (cl fb87 (@r11_P_sign.ok q78 y124.2 _ _ _ _ _ _ hG S y124_1h2 hy129) rfl ?_)
   rintro _ w ⟨y128_1v2, J130, hJ131, rfl, y128_1h2, S⟩
   have hL79 := hL79.trans hJ131
   refine mv (.int .u8 y128.1) rfl ⟨q78, Nat.le_refl _, y128.1, y124.1, y128.2.S, y128.2.At, y128.2.N, y128.2.Bad, y128_1v2, J130, H, (Nat.le_of_succ_le hq91), ⟨rfl, rfl, rfl, trivial⟩, hL79, (S.sel 3 [0, 1] rfl), y128_1h2⟩
  rw [if_neg cc119] at H
  refine cF rfl (eqF cc119) <| ex ⟨n71, s72, n73, l74, b77, v75, J69, (si H), ⟨rfl, trivial⟩, hL79, S, h76⟩
 rintro σ w ⟨n84, s85, n86, l87, b90, v88, J83, ho, hσ, hL79, S, h89⟩
 subst ho
 have H := HO81
 try dsimp only at H
 have hI := hI.trans hL79
 rw [hσ.eq]
 refine sr <| mv (.int .i64 n84) rfl <| mv (.int .i64 n84) rfl <| rt ?_
 obtain rfl := si H
 exact ⟨_, ⟨_, rfl, rfl⟩, ⟨v88, J83, hI, rfl, h89, S⟩⟩
theorem r11_P_part.zero : r11_P_part.C 0 := by
  intro _ _ _ _ _ _ _ _ _ _ H; cases H
theorem r11_P_choices.grp : ∀ k m, m ≤ k → r11_P_choices.C m ∧ r11_P_row.C m ∧ r11_P_part.C m
  | 0, m, h => by
    obtain rfl : m = 0 := by omega
    exact ⟨r11_P_choices.zero, r11_P_row.zero, r11_P_part.zero⟩
  | k + 1, 0, _ => ⟨r11_P_choices.zero, r11_P_row.zero, r11_P_part.zero⟩
  | k + 1, m + 1, h => ⟨r11_P_choices.step m (fun i hi => (r11_P_choices.grp k i (by omega)).2.1), r11_P_row.step m (fun i hi => (r11_P_choices.grp k i (by omega)).2.2), r11_P_part.step m (fun i hi => (r11_P_choices.grp k i (by omega)).1)⟩
theorem r11_P_choices.ok (k : Nat) : r11_P_choices.C k := (r11_P_choices.grp k k (Nat.le_refl k)).1
def r11_Parse.l0 : Nat → ByteArray → Int → Option (Sum ((Option T_r11_P) × Int × Int) Unit)
  | 0, _, _ => none
  | k + 1, x0, n3 => (if n3 < (x0.size : Int) then ((sat x0 n3).bind fun y12 => (if y12 = 0 then (some (.inl (none, 0, 14))) else (r11_Parse.l0 k x0 (i64 (n3 + 1))))) else (some (.inr ())))
def r11_Parse.f (k : Nat) (x0 : ByteArray) : Option ((Option T_r11_P) × Int × Int) := (if (x0.size : Int) > 100 then (some (none, 0, 4)) else (((r11_Parse.l0 k x0 0) : Option (Sum ((Option T_r11_P) × Int × Int) Unit)).bind fun o => match o with | .inl r => some r | .inr _ => ((r11_P_choices.f k (T_r11_P.mk x0 0 [] false)).bind fun y17 => ((r11_P_sign.f k y17.2).bind fun y21 => ((if y21.1 = 0 then (some y21.2.Bad) else (some true)).bind fun b26 => (if b26 = true then (some (none, 0, 14)) else (some ((some (T_r11_P.mk y21.2.S y21.2.At y21.2.N b26)), y17.1, 0))))))))
abbrev r11_Parse.C (k : Nat) : Prop := ∀ {x0 : ByteArray} {F : List It} {I : IMem} {w : World} {r : (Option T_r11_P) × Int × Int}, Glob I → Own I w (F) → r11_Parse.f k x0 = some r →
    Calls Tryz.prog 45 #[.string x0] w fun e w' => ∃ v, e = .returned v ∧ ∃ (vy_0 : Value) (J : IMem), I.le J ∧ v = .tuple #[vy_0, .int .i64 r.2.1, .int .i64 r.2.2] ∧ PtR R_r11_P J vy_0 r.1 ∧ Own J w' (F)
theorem r11_Parse.ok (k : Nat) : r11_Parse.C k := by
 intro x0 F I w r hG S H
 have hI := ilr I
 rw [r11_Parse.f] at H
 refine Calls.ofFW (args := [.string x0]) Tryz.func45 rfl rfl <| sr <| mv (.pointer none) rfl <| mv (.int .i64 0) rfl <| mv (.int .i64 0) rfl <| sq <| sr <| mv (.string x0) rfl <| u rfl (x_lens tstr9 rfl) <| u rfl (x_bin rfl rfl rfl) ?_
 by_cases cc1 : (x0.size : Int) > 100
 ·rw [if_pos cc1] at H
  refine cT rfl (deT cc1) <| sr <| mv (.pointer none) rfl <| mv (.int .i64 0) rfl <| mv (.int .i64 4) rfl <| rt ?_
  obtain rfl := si H
  exact ⟨_, ⟨_, rfl, ⟨_, rfl, ⟨_, rfl, rfl⟩⟩⟩, ⟨(.pointer none), I, hI, rfl, (PtR.nil _ _), S⟩⟩
 rw [if_neg cc1] at H
 refine cF rfl (deF cc1) <| sk <| sq <| sr <| mv (.int .i64 0) rfl <| bk ?_
 obtain ⟨o6, hl8, HO7⟩ := obx H
 refine FW.cutX 0 (fun σ w => ∃ (J9 : IMem), (.inr ()) = o6 ∧ Has σ [(0, .string x0)] ∧ I.le J9 ∧ Own J9 w (F)) ?_ ?_
 ·refine FW.loop k (FL.ind (fun q σ w => ∃ (n3 : Int) (J2 : IMem), r11_Parse.l0 q x0 n3 = some o6 ∧ q ≤ k ∧ Has σ [(0, .string x0), (5, .int .i64 n3)] ∧ I.le J2 ∧ Own J2 w (F)) ?_ ?_ k k _ _ (Nat.le_refl _) ⟨0, I, hl8, Nat.le_refl _, ⟨rfl, rfl, trivial⟩, (ilr _), S⟩)
  ·rintro σ w ⟨n3, J2, H, _⟩; cases H
  rintro q4 σ w ⟨n3, J2, H, hq10, hσ, hL5, S⟩
  have hI := hI.trans hL5
  rw [hσ.eq]
  rw [r11_Parse.l0] at H
  refine sq <| sr <| mv (.int .i64 n3) rfl <| mv (.string x0) rfl <| u rfl (x_lens tstr9 rfl) <| u rfl (x_bin rfl rfl rfl) ?_
  by_cases cc11 : n3 < (x0.size : Int)
  ·rw [if_pos cc11] at H
   refine cT rfl (deT cc11) <| sk <| sq <| bk <| sr <| mv (.string x0) rfl <| mv (.int .i64 n3) rfl ?_
   obtain ⟨y12, h13, H⟩ := obx H
   refine u rfl (x_sat tstr9 rfl rfl h13) <| u rfl (x_bin rfl rfl rfl) ?_
   by_cases cc14 : y12 = 0
   ·rw [if_pos cc14] at H
    refine cT rfl (eqT cc14) <| sq <| FW.anew [] trivial fun σ => rg <| mv (.pointer none) rfl <| mv (.int .i64 0) rfl <| mv (.int .i64 14) rfl <| rt ?_
    obtain rfl := si H
    obtain rfl := si HO7
    exact ⟨_, ⟨_, rfl, ⟨_, rfl, ⟨_, rfl, rfl⟩⟩⟩, ⟨(.pointer none), J2, hI, rfl, (PtR.nil _ _), S⟩⟩
   rw [if_neg cc14] at H
   refine cF rfl (eqF cc14) <| sk <| FW.anew [(0, .string x0), (5, .int .i64 n3)] ⟨rfl, rfl, trivial⟩ fun σ => rg <| mv (.int .i64 n3) rfl <| u rfl (x_bin rfl rfl rfl) <| mv (.int .i64 (i64 (n3 + 1))) rfl ⟨q4, Nat.le_refl _, (i64 (n3 + 1)), J2, H, (Nat.le_of_succ_le hq10), ⟨rfl, rfl, trivial⟩, hL5, S⟩
  rw [if_neg cc11] at H
  refine cF rfl (deF cc11) <| ex ⟨J2, (si H), ⟨rfl, trivial⟩, hL5, S⟩
 rintro σ w ⟨J9, ho, hσ, hL5, S⟩
 subst ho
 have H := HO7
 try dsimp only at H
 have hI := hI.trans hL5
 have hG := hG.mono hL5
 rw [hσ.eq]
 refine sr <| mv (.string x0) rfl <| u rfl (x_bld tz135 tpl135 rfl (.one rfl PC.nil) rfl) <| g rfl (o_boxA rfl S fun b15 w S => mv (pt b15) rfl (sq (rg (mv (pt b15) rfl ?_))))
 have S := S.nil_tv 163 6
 obtain ⟨y17, hy18, H⟩ := obx H
 refine g rfl (cl fb86 (@r11_P_choices.ok k (T_r11_P.mk x0 0 [] false) _ _ _ _ _ _ hG (S.sel 2 [1, 0] rfl) (SlR.nil _ _) hy18) rfl ?_)
 rintro _ w ⟨y17_1v2, J19, hJ20, rfl, y17_1h2, S⟩
 have hI := hI.trans hJ20
 have hG := hG.mono hJ20
 refine mv (.int .i64 y17.1) rfl <| sq <| sq <| FW.anew [(6, pt b15), (7, .int .i64 y17.1)] ⟨rfl, rfl, trivial⟩ fun σ => rg <| mv (pt b15) rfl ?_
 obtain ⟨y21, hy22, H⟩ := obx H
 refine g rfl (cl fb87 (@r11_P_sign.ok k y17.2 _ _ _ _ _ _ hG S y17_1h2 hy22) rfl ?_)
 rintro _ w ⟨y21_1v2, J23, hJ24, rfl, y21_1h2, S⟩
 have hI := hI.trans hJ24
 refine u rfl (x_bin rfl rfl rfl) ?_
 obtain ⟨o27, H, HO28⟩ := obx H
 have hL29 := ilr J23
 refine FW.cutN (fun σ w => ∃ (b26 : Bool) (J25 : IMem), b26 = o27 ∧ Has σ [(6, pt b15), (7, .int .i64 y17.1)] ∧ J23.le J25 ∧ Own J25 w (.bk b15 135 [.string y21.2.S, .int .i64 y21.2.At, y21_1v2, .bool b26] :: .tv y21_1v2 163 6 :: F)) ?_ ?_
 ·by_cases cc30 : y21.1 = 0
  ·rw [if_pos cc30] at H
   refine cF rfl (neF cc30) <| sk ⟨y21.2.Bad, J23, (si H), ⟨rfl, rfl, trivial⟩, hL29, S⟩
  rw [if_neg cc30] at H
  refine cT rfl (neT cc30) <| rg <| mv (pt b15) rfl <| u rfl (x_nk rfl) <| u rfl (x_fa tf135_3 rfl) <| g rfl (o_st tone4 S 0 rfl rfl rfl rfl fun w S => ⟨true, J23, (si H), ⟨rfl, rfl, trivial⟩, hL29, S⟩)
 rintro σ w ⟨b26, J25, ho, hσ, hL29, S⟩
 subst ho
 have H := HO28
 have y21_1h2 := y21_1h2.mono hL29
 have hI := hI.trans hL29
 rw [hσ.eq]
 refine sq <| sr <| mv (pt b15) rfl <| u rfl (x_nk rfl) <| u rfl (x_fa tf135_3 rfl) <| u rfl (x_ld tsc4 rfl (S.load 0 rfl 3 rfl)) ?_
 by_cases cc31 : b26 = true
 ·rw [if_pos cc31] at H
  refine cT rfl cc31 <| sr <| mv (.pointer none) rfl <| mv (.int .i64 0) rfl <| mv (.int .i64 14) rfl <| rt ?_
  obtain rfl := si H
  exact ⟨_, ⟨_, rfl, ⟨_, rfl, ⟨_, rfl, rfl⟩⟩⟩, ⟨(.pointer none), J25, hI, rfl, (PtR.nil _ _), (S.sel 2 [] rfl)⟩⟩
 rw [if_neg cc31] at H
 refine cF rfl (vaF cc31) <| sk <| sr <| mv (pt b15) rfl <| mv (.int .i64 y17.1) rfl <| mv (pt b15) rfl <| mv (.int .i64 y17.1) rfl <| mv (.int .i64 0) rfl <| rt ?_
 obtain ⟨J32, hJ34, S, h33⟩ := S.freezeB (r := R_r11_P) (x := (T_r11_P.mk y21.2.S y21.2.At y21.2.N b26)) 0 rfl ⟨y21_1v2, rfl, y21_1h2⟩
 have hI := hI.trans hJ34
 obtain rfl := si H
 exact ⟨_, ⟨_, rfl, ⟨_, rfl, ⟨_, rfl, rfl⟩⟩⟩, ⟨(pt b15), J32, hI, rfl, h33, (S.sel 1 [] rfl)⟩⟩
end Go.Proofs.YtafnenafbognkaaGreatDoor
namespace Go.Proofs.YtafnenafbognkaaGreatDoor
open Sp
set_option maxRecDepth 100000
set_option maxHeartbeats 4000000
def w03_Few.l0 : Nat → (List T_api_Segment) → Int → Int → Option (Sum Bool Unit)
  | 0, _, _, _ => none
  | k + 1, x0, n3, n4 => (if n4 < (x0.length : Int) then ((lat x0 n4).bind fun y13 => (if (i64 (n3 + (mn (y13.AS.length : Int) 300))) > 300 then (some (.inl false)) else (w03_Few.l0 k x0 (i64 (n3 + (mn (y13.AS.length : Int) 300))) (i64 (n4 + 1))))) else (some (.inr ())))
def w03_Few.f (k : Nat) (x0 : (List T_api_Segment)) : Option Bool := (if (x0.length : Int) > 12 then (some false) else (((w03_Few.l0 k x0 0 0) : Option (Sum Bool Unit)).bind fun o => match o with | .inl r => some r | .inr _ => (some true)))
abbrev w03_Few.C (k : Nat) : Prop := ∀ {x0 : (List T_api_Segment)} {vx0 : Value} {F : List It} {I : IMem} {w : World} {r : Bool}, Glob I → Own I w (F) → SlR R_api_Segment I vx0 x0 → w03_Few.f k x0 = some r →
    Calls Tryz.prog 48 #[vx0] w fun e w' => ∃ v, e = .returned v ∧ v = .bool r ∧ Own I w' (F)
theorem w03_Few.ok (k : Nat) : w03_Few.C k := by
 intro x0 vx0 F I w r hG S hx0 H
 have hI := ilr I
 rw [w03_Few.f] at H
 refine Calls.ofFW (args := [vx0]) Tryz.func48 rfl rfl <| sr <| mv (.bool false) rfl <| sq <| sr <| mv vx0 rfl <| u rfl (x_lenD (r := R_api_Segment) tsl37 hx0) <| u rfl (x_bin rfl rfl rfl) ?_
 by_cases cc1 : (x0.length : Int) > 12
 ·rw [if_pos cc1] at H
  refine cT rfl (deT cc1) <| sr <| mv (.bool false) rfl <| rt ?_
  obtain rfl := si H
  exact ⟨_, ⟨_, rfl, rfl⟩, ⟨rfl, (S.weaken hI)⟩⟩
 rw [if_neg cc1] at H
 refine cF rfl (deF cc1) <| sk <| sr <| mv (.int .i64 0) rfl <| sq <| sr <| mv (.int .i64 0) rfl <| bk ?_
 obtain ⟨o7, hl9, HO8⟩ := obx H
 refine FW.cutX 0 (fun σ w => ∃ (J10 : IMem), (.inr ()) = o7 ∧ Has σ [] ∧ I.le J10 ∧ Own J10 w (F)) ?_ ?_
 ·refine FW.loop k (FL.ind (fun q σ w => ∃ (n3 : Int) (n4 : Int) (J2 : IMem), w03_Few.l0 q x0 n3 n4 = some o7 ∧ q ≤ k ∧ Has σ [(0, vx0), (3, .int .i64 n3), (4, .int .i64 n4)] ∧ I.le J2 ∧ Own J2 w (F)) ?_ ?_ k k _ _ (Nat.le_refl _) ⟨0, 0, I, hl9, Nat.le_refl _, ⟨rfl, rfl, rfl, trivial⟩, (ilr _), S⟩)
  ·rintro σ w ⟨n3, n4, J2, H, _⟩; cases H
  rintro q5 σ w ⟨n3, n4, J2, H, hq11, hσ, hL6, S⟩
  have hx0 := hx0.mono hL6
  have hI := hI.trans hL6
  rw [hσ.eq]
  rw [w03_Few.l0] at H
  refine sq <| sr <| mv (.int .i64 n4) rfl <| mv vx0 rfl <| u rfl (x_lenD (r := R_api_Segment) tsl37 hx0) <| u rfl (x_bin rfl rfl rfl) ?_
  by_cases cc12 : n4 < (x0.length : Int)
  ·rw [if_pos cc12] at H
   refine cT rfl (deT cc12) <| sk <| sq <| bk <| sr <| mv (.int .i64 n3) rfl <| mv vx0 rfl <| mv (.int .i64 n4) rfl ?_
   obtain ⟨y13, h14, H⟩ := obx H
   refine g rfl (o_ia (r := R_api_Segment) tsl37 rfl rfl hx0 rfl h14 fun b15 o16 cs17 hr18 hc19 => ?_)
   obtain ⟨y13v1, rfl, y13h1⟩ := hr18
   refine u rfl (x_fa tf88_1 rfl) <| u rfl (x_ld tsc25 rfl (S.cell _ _ _ (hc19 1 _ rfl))) <| u rfl (x_lenD (r := (tInt' .u32)) tsl25 y13h1) <| u rfl (x_min rfl rfl) <| u rfl (x_bin rfl rfl rfl) <| mv (.int .i64 (i64 (n3 + (mn (y13.AS.length : Int) 300)))) rfl <| sq <| FW.anew [(0, vx0), (3, .int .i64 (i64 (n3 + (mn (y13.AS.length : Int) 300)))), (4, .int .i64 n4)] ⟨rfl, rfl, rfl, trivial⟩ fun σ => rg <| mv (.int .i64 (i64 (n3 + (mn (y13.AS.length : Int) 300)))) rfl <| u rfl (x_bin rfl rfl rfl) ?_
   by_cases cc20 : (i64 (n3 + (mn (y13.AS.length : Int) 300))) > 300
   ·rw [if_pos cc20] at H
    refine cT rfl (deT cc20) <| sr <| mv (.bool false) rfl <| rt ?_
    obtain rfl := si H
    obtain rfl := si HO8
    exact ⟨_, ⟨_, rfl, rfl⟩, ⟨rfl, (S.weaken hI)⟩⟩
   rw [if_neg cc20] at H
   refine cF rfl (deF cc20) <| sk <| rg <| mv (.int .i64 n4) rfl <| u rfl (x_bin rfl rfl rfl) <| mv (.int .i64 (i64 (n4 + 1))) rfl ⟨q5, Nat.le_refl _, (i64 (n3 + (mn (y13.AS.length : Int) 300))), (i64 (n4 + 1)), J2, H, (Nat.le_of_succ_le hq11), ⟨rfl, rfl, rfl, trivial⟩, hL6, S⟩
  rw [if_neg cc12] at H
  refine cF rfl (deF cc12) <| ex ⟨J2, (si H), trivial, hL6, S⟩
 rintro σ w ⟨J10, ho, hσ, hL6, S⟩
 subst ho
 have H := HO8
 try dsimp only at H
 have hI := hI.trans hL6
 rw [hσ.eq]
 refine sr <| mv (.bool true) rfl <| rt ?_
 obtain rfl := si H
 exact ⟨_, ⟨_, rfl, rfl⟩, ⟨rfl, (S.weaken hI)⟩⟩
def w04_Few.l0 : Nat → T_api_Attrs → Int → Option (Sum Bool Unit)
  | 0, _, _ => none
  | k + 1, x0, n8 => (if n8 < (x0.Raws.length : Int) then ((lat x0.Raws n8).bind fun y17 => (if (y17.Data.length : Int) > 400 then (some (.inl false)) else (w04_Few.l0 k x0 (i64 (n8 + 1))))) else (some (.inr ())))
def w04_Few.f (k : Nat) (x0 : T_api_Attrs) : Option Bool := ((w03_Few.f k x0.Path).bind fun y2 => (if y2 = true then (if (x0.Comms.length : Int) > 60 then (some false) else (if (x0.Raws.length : Int) > 12 then (some false) else (((w04_Few.l0 k x0 0) : Option (Sum Bool Unit)).bind fun o => match o with | .inl r => some r | .inr _ => (some true)))) else (some false)))
abbrev w04_Few.C (k : Nat) : Prop := ∀ {x0 : T_api_Attrs} {x0v1 : Value} {x0v9 : Value} {x0v10 : Value} {F : List It} {I : IMem} {w : World} {r : Bool}, Glob I → Own I w (F) → SlR R_api_Segment I x0v1 x0.Path → SlR (tInt' .u32) I x0v9 x0.Comms → SlR R_api_Raw I x0v10 x0.Raws → w04_Few.f k x0 = some r →
    Calls Tryz.prog 18 #[.agg #[.int .i64 x0.Origin, x0v1, .int .u32 x0.Next, .int .i64 x0.Med, .int .i64 x0.Pref, .bool x0.Atomic, .bool x0.HasAggr, .int .u32 x0.AggrAS, .int .u32 x0.AggrAddr, x0v9, x0v10]] w fun e w' => ∃ v, e = .returned v ∧ v = .bool r ∧ Own I w' (F)
theorem w04_Few.ok (k : Nat) : w04_Few.C k := by
 intro x0 x0v1 x0v9 x0v10 F I w r hG S x0h1 x0h9 x0h10 H
 have hI := ilr I
 rw [w04_Few.f] at H
 refine Calls.ofFW (args := [.agg #[.int .i64 x0.Origin, x0v1, .int .u32 x0.Next, .int .i64 x0.Med, .int .i64 x0.Pref, .bool x0.Atomic, .bool x0.HasAggr, .int .u32 x0.AggrAS, .int .u32 x0.AggrAddr, x0v9, x0v10]]) Tryz.func18 rfl rfl <| sr <| g rfl (o_boxA rfl S fun b1 w S => mv (.bool false) rfl (sq (sq (rg (u rfl (x_fa tf40_1 rfl) (u rfl (x_ld tsc37 rfl (S.load 0 rfl 1 rfl)) ?_))))))
 obtain ⟨y2, hy3, H⟩ := obx H
 refine g rfl (cl fb48 (@w03_Few.ok k x0.Path _ _ _ _ _ hG S x0h1 hy3) rfl ?_)
 rintro _ w ⟨rfl, S⟩
 refine u rfl (x_not' rfl) <| mv (.bool (!y2)) rfl ?_
 by_cases cc4 : y2 = true
 ·rw [if_pos cc4] at H
  refine gu rfl rfl rfl (noF cc4) (x_fa tf40_9 rfl) <| gu rfl rfl rfl (noF cc4) (x_ld tsc25 rfl (S.load 0 rfl 9 rfl)) <| gu rfl rfl rfl (noF cc4) (x_lenD (r := (tInt' .u32)) tsl25 x0h9) <| gu rfl rfl rfl (noF cc4) (x_bin rfl rfl rfl) <| u rfl (x_pickFV (v := .bool (decide ((x0.Comms.length : Int) > 60))) rfl (noF cc4) rfl) <| mv (.bool (decide ((x0.Comms.length : Int) > 60))) rfl ?_
  by_cases cc5 : (x0.Comms.length : Int) > 60
  ·rw [if_pos cc5] at H
   refine gn rfl rfl rfl (deT cc5) <| gn rfl rfl rfl (deT cc5) <| gn rfl rfl rfl (deT cc5) <| gn rfl rfl rfl (deT cc5) <| u rfl (x_pickTV (v := .bool true) rfl (deT cc5) rfl) <| cT rfl rfl <| sq <| FW.anew [] trivial fun σ => rg <| mv (.bool false) rfl <| rt ?_
   obtain rfl := si H
   exact ⟨_, ⟨_, rfl, rfl⟩, ⟨rfl, ((S.sel 1 [] rfl).weaken hI)⟩⟩
  rw [if_neg cc5] at H
  refine gu rfl rfl rfl (deF cc5) (x_fa tf40_10 rfl) <| gu rfl rfl rfl (deF cc5) (x_ld tsc38 rfl (S.load 0 rfl 10 rfl)) <| gu rfl rfl rfl (deF cc5) (x_lenD (r := R_api_Raw) tsl38 x0h10) <| gu rfl rfl rfl (deF cc5) (x_bin rfl rfl rfl) <| u rfl (x_pickFV (v := .bool (decide ((x0.Raws.length : Int) > 12))) rfl (deF cc5) rfl) ?_
  by_cases cc6 : (x0.Raws.length : Int) > 12
  ·rw [if_pos cc6] at H
   refine cT rfl (deT cc6) <| sq <| FW.anew [] trivial fun σ => rg <| mv (.bool false) rfl <| rt ?_
   obtain rfl := si H
   exact ⟨_, ⟨_, rfl, rfl⟩, ⟨rfl, ((S.sel 1 [] rfl).weaken hI)⟩⟩
  rw [if_neg cc6] at H
  refine cF rfl (deF cc6) <| sk <| sq <| sq <| FW.anew [(1, pt b1)] ⟨rfl, trivial⟩ fun σ => rg <| mv (.int .i64 0) rfl <| bk ?_
  obtain ⟨o11, hl13, HO12⟩ := obx H
  refine FW.cutX 0 (fun σ w => ∃ (J14 : IMem), (.inr ()) = o11 ∧ Has σ [] ∧ I.le J14 ∧ Own J14 w (.bk b1 40 [.int .i64 x0.Origin, x0v1, .int .u32 x0.Next, .int .i64 x0.Med, .int .i64 x0.Pref, .bool x0.Atomic, .bool x0.HasAggr, .int .u32 x0.AggrAS, .int .u32 x0.AggrAddr, x0v9, x0v10] :: F)) ?_ ?_
  ·refine FW.loop k (FL.ind (fun q σ w => ∃ (n8 : Int) (J7 : IMem), w04_Few.l0 q x0 n8 = some o11 ∧ q ≤ k ∧ Has σ [(1, pt b1), (3, .int .i64 n8)] ∧ I.le J7 ∧ Own J7 w (.bk b1 40 [.int .i64 x0.Origin, x0v1, .int .u32 x0.Next, .int .i64 x0.Med, .int .i64 x0.Pref, .bool x0.Atomic, .bool x0.HasAggr, .int .u32 x0.AggrAS, .int .u32 x0.AggrAddr, x0v9, x0v10] :: F)) ?_ ?_ k k _ _ (Nat.le_refl _) ⟨0, I, hl13, Nat.le_refl _, ⟨rfl, rfl, trivial⟩, (ilr _), S⟩)
   ·rintro σ w ⟨n8, J7, H, _⟩; cases H
   rintro q9 σ w ⟨n8, J7, H, hq15, hσ, hL10, S⟩
   have x0h10 := x0h10.mono hL10
   have hI := hI.trans hL10
   rw [hσ.eq]
   rw [w04_Few.l0] at H
   refine sq <| sr <| mv (.int .i64 n8) rfl <| u rfl (x_fa tf40_10 rfl) <| u rfl (x_ld tsc38 rfl (S.load 0 rfl 10 rfl)) <| u rfl (x_lenD (r := R_api_Raw) tsl38 x0h10) <| u rfl (x_bin rfl rfl rfl) ?_
   by_cases cc16 : n8 < (x0.Raws.length : Int)
   ·rw [if_pos cc16] at H
    refine cT rfl (deT cc16) <| sk <| sq <| bk <| sr <| u rfl (x_fa tf40_10 rfl) <| u rfl (x_ld tsc38 rfl (S.load 0 rfl 10 rfl)) <| mv (.int .i64 n8) rfl ?_
    obtain ⟨y17, h18, H⟩ := obx H
    refine g rfl (o_ia (r := R_api_Raw) tsl38 rfl rfl x0h10 rfl h18 fun b19 o20 cs21 hr22 hc23 => ?_)
    obtain ⟨y17v2, rfl, y17h2⟩ := hr22
    refine u rfl (x_fa tf86_2 rfl) <| u rfl (x_ld tsc84 rfl (S.cell _ _ _ (hc23 2 _ rfl))) <| u rfl (x_lenD (r := (tInt' .u8)) tsl84 y17h2) <| u rfl (x_bin rfl rfl rfl) ?_
    by_cases cc24 : (y17.Data.length : Int) > 400
    ·rw [if_pos cc24] at H
     refine cT rfl (deT cc24) <| sq <| FW.anew [] trivial fun σ => rg <| mv (.bool false) rfl <| rt ?_
     obtain rfl := si H
     obtain rfl := si HO12
     exact ⟨_, ⟨_, rfl, rfl⟩, ⟨rfl, ((S.sel 1 [] rfl).weaken hI)⟩⟩
    rw [if_neg cc24] at H
    refine cF rfl (deF cc24) <| sk <| FW.anew [(1, pt b1), (3, .int .i64 n8)] ⟨rfl, rfl, trivial⟩ fun σ => rg <| mv (.int .i64 n8) rfl <| u rfl (x_bin rfl rfl rfl) <| mv (.int .i64 (i64 (n8 + 1))) rfl ⟨q9, Nat.le_refl _, (i64 (n8 + 1)), J7, H, (Nat.le_of_succ_le hq15), ⟨rfl, rfl, trivial⟩, hL10, S⟩
   rw [if_neg cc16] at H
   refine cF rfl (deF cc16) <| ex ⟨J7, (si H), trivial, hL10, S⟩
  rintro σ w ⟨J14, ho, hσ, hL10, S⟩
  subst ho
  have H := HO12
  try dsimp only at H
  have hI := hI.trans hL10
  rw [hσ.eq]
  refine sr <| mv (.bool true) rfl <| rt ?_
  obtain rfl := si H
  exact ⟨_, ⟨_, rfl, rfl⟩, ⟨rfl, ((S.sel 1 [] rfl).weaken hI)⟩⟩
 rw [if_neg cc4] at H
 refine gn rfl rfl rfl (noT (vaF cc4)) <| gn rfl rfl rfl (noT (vaF cc4)) <| gn rfl rfl rfl (noT (vaF cc4)) <| gn rfl rfl rfl (noT (vaF cc4)) <| u rfl (x_pickTV (v := .bool true) rfl (noT (vaF cc4)) rfl) <| mv (.bool true) rfl <| gn rfl rfl rfl rfl <| gn rfl rfl rfl rfl <| gn rfl rfl rfl rfl <| gn rfl rfl rfl rfl <| u rfl (x_pickTV (v := .bool true) rfl rfl rfl) <| cT rfl rfl <| sq <| FW.anew [] trivial fun σ => rg <| mv (.bool false) rfl <| rt ?_
 obtain rfl := si H
 exact ⟨_, ⟨_, rfl, rfl⟩, ⟨rfl, ((S.sel 1 [] rfl).weaken hI)⟩⟩
def r03_Flat.l1 : Nat → (List T_api_Segment) → Int → (List Int) → Int → Option (List Int)
  | 0, _, _, _, _ => none
  | k + 1, x0, n6, l19, n22 => ((lat x0 n6).bind fun y33 => (if n22 < (y33.AS.length : Int) then ((lat x0 n6).bind fun y41 => ((lat y41.AS n22).bind fun y48 => ((app 4 l19 [y48]).bind fun l59 => (r03_Flat.l1 k x0 n6 l59 (i64 (n22 + 1)))))) else (some l19)))
def r03_Flat.l0 : Nat → (List T_api_Segment) → (List Int) → Int → Option (List Int)
  | 0, _, _, _ => none
  | k + 1, x0, l3, n6 => (if n6 < (x0.length : Int) then ((r03_Flat.l1 k x0 n6 l3 0).bind fun l29 => (r03_Flat.l0 k x0 l29 (i64 (n6 + 1)))) else (some l3))
def r03_Flat.f (k : Nat) (x0 : (List T_api_Segment)) : Option (List Int) := ((r03_Flat.l0 k x0 [] 0).bind fun l13 => (some l13))
abbrev r03_Flat.C (k : Nat) : Prop := ∀ {x0 : (List T_api_Segment)} {vx0 : Value} {F : List It} {I : IMem} {w : World} {r : (List Int)}, Glob I → Own I w (F) → SlR R_api_Segment I vx0 x0 → r03_Flat.f k x0 = some r →
    Calls Tryz.prog 19 #[vx0] w fun e w' => ∃ v, e = .returned v ∧ ∃ (vy_0 : Value) (J : IMem), I.le J ∧ v = vy_0 ∧ SlR (tInt' .u32) J vy_0 r ∧ Own J w' (.tv vy_0 23 1 :: F)
theorem r03_Flat.ok (k : Nat) : r03_Flat.C k := by
 intro x0 vx0 F I w r hG S hx0 H
 have hI := ilr I
 rw [r03_Flat.f] at H
 refine Calls.ofFW (args := [vx0]) Tryz.func19 rfl rfl <| sr <| mv ((.slice none 0 0)) rfl <| sr <| mv ((.slice none 0 0)) rfl <| sq <| sr <| mv (.int .i64 0) rfl <| bk ?_
 have S := S.nil_tv 23 1
 obtain ⟨o9, hl11, HO10⟩ := obx H
 refine FW.cutX 0 (fun σ w => ∃ (l13 : (List Int)) (v14 : Value) (J12 : IMem), l13 = o9 ∧ Has σ [(3, v14)] ∧ I.le J12 ∧ Own J12 w (.tv v14 23 1 :: F) ∧ SlR (tInt' .u32) J12 v14 l13) ?_ ?_
 ·refine FW.loop k (FL.ind (fun q σ w => ∃ (l3 : (List Int)) (n6 : Int) (v4 : Value) (J2 : IMem), r03_Flat.l0 q x0 l3 n6 = some o9 ∧ q ≤ k ∧ Has σ [(0, vx0), (3, v4), (4, .int .i64 n6)] ∧ I.le J2 ∧ Own J2 w (.tv v4 23 1 :: F) ∧ SlR (tInt' .u32) J2 v4 l3) ?_ ?_ k k _ _ (Nat.le_refl _) ⟨[], 0, (.slice none 0 0), I, hl11, Nat.le_refl _, ⟨rfl, rfl, rfl, trivial⟩, (ilr _), S, (SlR.nil _ _)⟩)
  ·rintro σ w ⟨l3, n6, v4, J2, H, _⟩; cases H
  rintro q7 σ w ⟨l3, n6, v4, J2, H, hq16, hσ, hL8, S, h5⟩
  have hx0 := hx0.mono hL8
  rw [hσ.eq]
  rw [r03_Flat.l0] at H
  refine sq <| sr <| mv (.int .i64 n6) rfl <| mv vx0 rfl <| u rfl (x_lenD (r := R_api_Segment) tsl37 hx0) <| u rfl (x_bin rfl rfl rfl) ?_
  by_cases cc17 : n6 < (x0.length : Int)
  ·rw [if_pos cc17] at H
   refine cT rfl (deT cc17) <| sk <| sq <| bk <| sr <| mv (.int .i64 0) rfl <| bk ?_
   obtain ⟨o25, hl27, HO26⟩ := obx H
   refine FW.cutX 2 (fun σ w => ∃ (l29 : (List Int)) (v30 : Value) (J28 : IMem), l29 = o25 ∧ Has σ [(0, vx0), (3, v30), (4, .int .i64 n6)] ∧ J2.le J28 ∧ Own J28 w (.tv v30 23 1 :: F) ∧ SlR (tInt' .u32) J28 v30 l29) ?_ ?_
   ·refine FW.loop q7 (FL.ind (fun q σ w => ∃ (l19 : (List Int)) (n22 : Int) (v20 : Value) (J18 : IMem), r03_Flat.l1 q x0 n6 l19 n22 = some o25 ∧ q ≤ q7 ∧ Has σ [(0, vx0), (3, v20), (4, .int .i64 n6), (5, .int .i64 n22)] ∧ J2.le J18 ∧ Own J18 w (.tv v20 23 1 :: F) ∧ SlR (tInt' .u32) J18 v20 l19) ?_ ?_ q7 q7 _ _ (Nat.le_refl _) ⟨l3, 0, v4, J2, hl27, Nat.le_refl _, ⟨rfl, rfl, rfl, rfl, trivial⟩, (ilr _), S, h5⟩)
    ·rintro σ w ⟨l19, n22, v20, J18, H, _⟩; cases H
    rintro q23 σ w ⟨l19, n22, v20, J18, H, hq32, hσ, hL24, S, h21⟩
    have hx0 := hx0.mono hL24
    rw [hσ.eq]
    rw [r03_Flat.l1] at H
    refine sq <| sr <| mv (.int .i64 n22) rfl <| mv vx0 rfl <| mv (.int .i64 n6) rfl ?_
    obtain ⟨y33, h34, H⟩ := obx H
    refine g rfl (o_ia (r := R_api_Segment) tsl37 rfl rfl hx0 rfl h34 fun b35 o36 cs37 hr38 hc39 => ?_)
    obtain ⟨y33v1, rfl, y33h1⟩ := hr38
    refine u rfl (x_fa tf88_1 rfl) <| u rfl (x_ld tsc25 rfl (S.cell _ _ _ (hc39 1 _ rfl))) <| u rfl (x_lenD (r := (tInt' .u32)) tsl25 y33h1) <| u rfl (x_bin rfl rfl rfl) ?_
    by_cases cc40 : n22 < (y33.AS.length : Int)
    ·rw [if_pos cc40] at H
     refine cT rfl (deT cc40) <| sk <| sq <| bk <| FW.anew [(0, vx0), (3, v20), (4, .int .i64 n6), (5, .int .i64 n22)] ⟨rfl, rfl, rfl, rfl, trivial⟩ fun σ => rg <| mv v20 rfl <| mv vx0 rfl <| mv (.int .i64 n6) rfl ?_
     obtain ⟨y41, h42, H⟩ := obx H
     refine g rfl (o_ia (r := R_api_Segment) tsl37 rfl rfl hx0 rfl h42 fun b43 o44 cs45 hr46 hc47 => ?_)
     obtain ⟨y41v1, rfl, y41h1⟩ := hr46
     refine u rfl (x_fa tf88_1 rfl) <| u rfl (x_ld tsc25 rfl (S.cell _ _ _ (hc47 1 _ rfl))) <| mv (.int .i64 n22) rfl ?_
     obtain ⟨y48, h49, H⟩ := obx H
     refine g rfl (o_ia (r := (tInt' .u32)) tsl25 rfl rfl y41h1 rfl h49 fun b50 o51 cs52 hr53 hc54 => ?_)
     obtain rfl := hr53
     refine u rfl (x_ld tsc23 rfl (S.cell _ _ _ (hc54 0 _ rfl))) <| g rfl (o_bsl tsl25 tz23 rfl rfl rfl rfl (.one rfl PC.nil) rfl S fun b55 w S => ?_)
     obtain ⟨J56, hJ58, S, h57⟩ := S.freeze (r := (tInt' .u32)) (l := [y48]) 0 rfl ⟨[.int .u32 y48], _, rfl, rfl, rfl⟩ rfl rfl
     have h21 := h21.mono hJ58
     have hL24 := hL24.trans hJ58
     obtain ⟨l59, h61, H⟩ := obx H
     refine g rfl (o_appD (r := (tInt' .u32)) tsl25 rfl tz23 rfl rfl S 1 rfl rfl h21 h57 h61 fun v60 w J63 hJ64 S h62 => ?_)
     have hL24 := hL24.trans hJ64
     refine mv v60 rfl <| FW.anew [(0, vx0), (3, v60), (4, .int .i64 n6), (5, .int .i64 n22)] ⟨rfl, rfl, rfl, rfl, trivial⟩ fun σ => rg <| mv (.int .i64 n22) rfl <| u rfl (x_bin rfl rfl rfl) <| mv (.int .i64 (i64 (n22 + 1))) rfl ⟨q23, Nat.le_refl _, l59, (i64 (n22 + 1)), v60, J63, H, (Nat.le_of_succ_le hq32), ⟨rfl, rfl, rfl, rfl, trivial⟩, hL24, (S.sel 2 [1] rfl), h62⟩
    rw [if_neg cc40] at H
    refine cF rfl (deF cc40) <| ex ⟨l19, v20, J18, (si H), ⟨rfl, rfl, rfl, trivial⟩, hL24, S, h21⟩
   rintro σ w ⟨l29, v30, J28, ho, hσ, hL24, S, h31⟩
   subst ho
   have H := HO26
   have hL8 := hL8.trans hL24
   rw [hσ.eq]
   refine rg <| mv (.int .i64 n6) rfl <| u rfl (x_bin rfl rfl rfl) <| mv (.int .i64 (i64 (n6 + 1))) rfl ⟨q7, Nat.le_refl _, l29, (i64 (n6 + 1)), v30, J28, H, (Nat.le_of_succ_le hq16), ⟨rfl, rfl, rfl, trivial⟩, hL8, S, h31⟩
  rw [if_neg cc17] at H
  refine cF rfl (deF cc17) <| ex ⟨l3, v4, J2, (si H), ⟨rfl, trivial⟩, hL8, S, h5⟩
 rintro σ w ⟨l13, v14, J12, ho, hσ, hL8, S, h15⟩
 subst ho
 have H := HO10
 have hI := hI.trans hL8
 rw [hσ.eq]
 refine sr <| mv v14 rfl <| mv v14 rfl <| rt ?_
 obtain rfl := si H
 exact ⟨_, ⟨_, rfl, rfl⟩, ⟨v14, J12, hI, rfl, h15, S⟩⟩
def r02_Holds.f (k : Nat) (x0 : T_api_Prefix) (x1 : Int) : Option Bool := ((r02_Right.f k x0).bind fun y3 => (if y3 = true then ((r02_Norm.f k x1 x0.Len).bind fun y6 => (some (y6.Addr == x0.Addr && y6.Len == x0.Len))) else (some false)))
abbrev r02_Holds.C (k : Nat) : Prop := ∀ {x0 : T_api_Prefix} {x1 : Int} {F : List It} {I : IMem} {w : World} {r : Bool}, Glob I → Own I w (F) → r02_Holds.f k x0 x1 = some r →
    Calls Tryz.prog 146 #[.agg #[.int .u32 x0.Addr, .int .i64 x0.Len], .int .u32 x1] w fun e w' => ∃ v, e = .returned v ∧ v = .bool r ∧ Own I w' (F)
theorem r02_Holds.ok (k : Nat) : r02_Holds.C k := by
 intro x0 x1 F I w r hG S H
 have hI := ilr I
 rw [r02_Holds.f] at H
 refine Calls.ofFW (args := [.agg #[.int .u32 x0.Addr, .int .i64 x0.Len], .int .u32 x1]) Tryz.func146 rfl rfl <| sr <| g rfl (o_boxA rfl S fun b1 w S => mv (.bool false) rfl (sq ?_))
 have S := S.drew
 refine FW.regionD mixed ?_
 have hO := Hold.nil (w := { w with drawn := w.drawn + 1 })
 have hR2 := ilr I
 refine ak (Stab I [.bk b1 36 [.int .u32 x0.Addr, .int .i64 x0.Len]]) 0 rfl (by kernel_rfl) hO (Stab.of S 0 rfl hR2) (fun w hS => x_ldA tag36 rfl (hS.loadW 0 rfl) rfl) fun hO => AQ.one 1 [0] [false] (by kernel_rfl) rfl (by kernel_rfl) ?_
 obtain ⟨y3, hy4, H⟩ := obx H
 refine g rfl (cl fb85 (@r02_Right.ok k x0 _ _ _ _ hG S hy4) rfl ?_)
 rintro _ w ⟨rfl, S⟩
 refine andI Hold.nil fun hO => am 2 (.bool y3) rfl (by kernel_rfl) hO ?_
 by_cases cc5 : y3 = true
 ·rw [if_pos cc5] at H
  refine AQ.pure 3 rfl (by kernel_rfl) (by kernel_rfl) (by kernel_rfl) (gT rfl rfl cc5) hO (fun w => x_movV (v := .int .u32 x1) rfl) <| AQ.pure 4 rfl (by kernel_rfl) (by kernel_rfl) (by kernel_rfl) (gT rfl rfl cc5) hO (fun w => x_fa tf36_1 rfl) <| AQ.take (S := Stab I [.bk b1 36 [.int .u32 x0.Addr, .int .i64 x0.Len]]) 5 rfl (by kernel_rfl) (by kernel_rfl) (by kernel_rfl) (gT rfl rfl cc5) hO (Stab.of S 0 rfl hR2) (fun w hS => x_ld tsc3 rfl (hS.load 0 rfl 1 rfl)) fun hO => AQ.take (S := Stab I [.bk b1 36 [.int .u32 x0.Addr, .int .i64 x0.Len]]) 7 rfl (by kernel_rfl) (by kernel_rfl) (by kernel_rfl) (gT rfl rfl cc5) hO (Stab.of S 0 rfl hR2) (fun w hS => x_ldA tag36 rfl (hS.loadW 0 rfl) rfl) fun hO => AQ.one 6 [7, 5] [true, false] (by kernel_rfl) rfl (by kernel_rfl) ?_
  obtain ⟨y6, hy7, H⟩ := obx H
  refine OK.gt rfl rfl rfl cc5 (cl fb118 (@r02_Norm.ok k x1 x0.Len _ _ _ _ hG S hy7) rfl ?_)
  rintro _ w ⟨rfl, S⟩
  refine andI (Hold.cons (Stab.of S 0 rfl hR2) Hold.nil) fun hO => AQ.pure 8 rfl (by kernel_rfl) (by kernel_rfl) (by kernel_rfl) (gT rfl rfl cc5) hO (fun w => x_e2 te2_36 rfl rfl) <| ap 9 rfl (by kernel_rfl) hO (fun w => x_pickTV (v := .bool (y6.Addr == x0.Addr && y6.Len == x0.Len)) rfl cc5 rfl) <| ap 10 rfl (by kernel_rfl) hO (fun w => x_asgV (v := .bool (y6.Addr == x0.Addr && y6.Len == x0.Len)) rfl) <| AQ.done (by kernel_rfl) <| rt ?_
  obtain rfl := si H
  exact ⟨_, ⟨_, rfl, rfl⟩, ⟨rfl, ((S.sel 1 [] rfl).weaken hI)⟩⟩
 rw [if_neg cc5] at H
 refine AQ.skip 3 rfl (by kernel_rfl) (by kernel_rfl) (by kernel_rfl) rfl rfl (vaF cc5) hO <| AQ.skip 4 rfl (by kernel_rfl) (by kernel_rfl) (by kernel_rfl) rfl rfl (vaF cc5) hO <| AQ.skip 5 rfl (by kernel_rfl) (by kernel_rfl) (by kernel_rfl) rfl rfl (vaF cc5) hO <| AQ.skip 6 rfl (by kernel_rfl) (by kernel_rfl) (by kernel_rfl) rfl rfl (vaF cc5) hO <| AQ.skip 7 rfl (by kernel_rfl) (by kernel_rfl) (by kernel_rfl) rfl rfl (vaF cc5) hO <| AQ.skip 8 rfl (by kernel_rfl) (by kernel_rfl) (by kernel_rfl) rfl rfl (vaF cc5) hO <| ap 9 rfl (by kernel_rfl) hO (fun w => x_pickFV (v := .bool false) rfl (vaF cc5) rfl) <| ap 10 rfl (by kernel_rfl) hO (fun w => x_asgV (v := .bool false) rfl) <| AQ.done (by kernel_rfl) <| rt ?_
 obtain rfl := si H
 exact ⟨_, ⟨_, rfl, rfl⟩, ⟨rfl, ((S.sel 1 [] rfl).weaken hI)⟩⟩
def r02_Covers.f (k : Nat) (x0 : T_api_Prefix) (x1 : T_api_Prefix) : Option Bool := ((r02_Right.f k x1).bind fun y3 => (if y3 = true then (if x1.Len ≥ x0.Len then ((r02_Holds.f k x0 x1.Addr).bind fun y7 => (some y7)) else (some false)) else (some false)))
abbrev r02_Covers.C (k : Nat) : Prop := ∀ {x0 : T_api_Prefix} {x1 : T_api_Prefix} {F : List It} {I : IMem} {w : World} {r : Bool}, Glob I → Own I w (F) → r02_Covers.f k x0 x1 = some r →
    Calls Tryz.prog 124 #[.agg #[.int .u32 x0.Addr, .int .i64 x0.Len], .agg #[.int .u32 x1.Addr, .int .i64 x1.Len]] w fun e w' => ∃ v, e = .returned v ∧ v = .bool r ∧ Own I w' (F)
theorem r02_Covers.ok (k : Nat) : r02_Covers.C k := by
 intro x0 x1 F I w r hG S H
 have hI := ilr I
 rw [r02_Covers.f] at H
 refine Calls.ofFW (args := [.agg #[.int .u32 x0.Addr, .int .i64 x0.Len], .agg #[.int .u32 x1.Addr, .int .i64 x1.Len]]) Tryz.func124 rfl rfl <| sr <| g rfl (o_boxA rfl S fun b1 w S => g rfl (o_boxA rfl S fun b2 w S => mv (.bool false) rfl (sq (rg (u rfl (x_ldA tag36 rfl (S.loadW 0 rfl) rfl) ?_)))))
 obtain ⟨y3, hy4, H⟩ := obx H
 refine g rfl (cl fb85 (@r02_Right.ok k x1 _ _ _ _ hG S hy4) rfl ?_)
 rintro _ w ⟨rfl, S⟩
 refine mv (.bool y3) rfl ?_
 by_cases cc5 : y3 = true
 ·rw [if_pos cc5] at H
  refine gu rfl rfl rfl cc5 (x_fa tf36_1 rfl) <| gu rfl rfl rfl cc5 (x_ld tsc3 rfl (S.load 0 rfl 1 rfl)) <| gu rfl rfl rfl cc5 (x_fa tf36_1 rfl) <| gu rfl rfl rfl cc5 (x_ld tsc3 rfl (S.load 1 rfl 1 rfl)) <| gu rfl rfl rfl cc5 (x_bin rfl rfl rfl) <| u rfl (x_pickTV (v := .bool (decide (x1.Len ≥ x0.Len))) rfl cc5 rfl) <| mv (.bool (decide (x1.Len ≥ x0.Len))) rfl ?_
  by_cases cc6 : x1.Len ≥ x0.Len
  ·rw [if_pos cc6] at H
   refine gu rfl rfl rfl (deT cc6) (x_ldA tag36 rfl (S.loadW 1 rfl) rfl) <| gu rfl rfl rfl (deT cc6) (x_fa tf36_0 rfl) <| gu rfl rfl rfl (deT cc6) (x_ld tsc23 rfl (S.load 0 rfl 0 rfl)) ?_
   obtain ⟨y7, hy8, H⟩ := obx H
   refine OK.gt rfl rfl rfl (deT cc6) (cl fb146 (@r02_Holds.ok k x0 x1.Addr _ _ _ _ hG S hy8) rfl ?_)
   rintro _ w ⟨rfl, S⟩
   refine u rfl (x_pickTV (v := .bool y7) rfl (deT cc6) rfl) <| mv (.bool y7) rfl <| rt ?_
   obtain rfl := si H
   exact ⟨_, ⟨_, rfl, rfl⟩, ⟨rfl, ((S.sel 2 [] rfl).weaken hI)⟩⟩
  rw [if_neg cc6] at H
  refine gn rfl rfl rfl (deF cc6) <| gn rfl rfl rfl (deF cc6) <| gn rfl rfl rfl (deF cc6) <| gn rfl rfl rfl (deF cc6) <| u rfl (x_pickFV (v := .bool false) rfl (deF cc6) rfl) <| mv (.bool false) rfl <| rt ?_
  obtain rfl := si H
  exact ⟨_, ⟨_, rfl, rfl⟩, ⟨rfl, ((S.sel 2 [] rfl).weaken hI)⟩⟩
 rw [if_neg cc5] at H
 refine gn rfl rfl rfl (vaF cc5) <| gn rfl rfl rfl (vaF cc5) <| gn rfl rfl rfl (vaF cc5) <| gn rfl rfl rfl (vaF cc5) <| gn rfl rfl rfl (vaF cc5) <| u rfl (x_pickFV (v := .bool false) rfl (vaF cc5) rfl) <| mv (.bool false) rfl <| gn rfl rfl rfl rfl <| gn rfl rfl rfl rfl <| gn rfl rfl rfl rfl <| gn rfl rfl rfl rfl <| u rfl (x_pickFV (v := .bool false) rfl rfl rfl) <| mv (.bool false) rfl <| rt ?_
 obtain rfl := si H
 exact ⟨_, ⟨_, rfl, rfl⟩, ⟨rfl, ((S.sel 2 [] rfl).weaken hI)⟩⟩
def r12_In.f (k : Nat) (x0 : T_api_Range) (x1 : T_api_Prefix) : Option Bool := ((r12_Right.f k x0).bind fun y3 => (if y3 = true then ((r02_Covers.f k x0.Prefix x1).bind fun y6 => (if y6 = true then (if x0.Min ≤ x1.Len then (some (decide (x1.Len ≤ x0.Max))) else (some false)) else (some false))) else (some false)))
abbrev r12_In.C (k : Nat) : Prop := ∀ {x0 : T_api_Range} {x1 : T_api_Prefix} {F : List It} {I : IMem} {w : World} {r : Bool}, Glob I → Own I w (F) → r12_In.f k x0 x1 = some r →
    Calls Tryz.prog 97 #[.agg #[.int .u32 x0.Prefix.Addr, .int .i64 x0.Prefix.Len, .int .i64 x0.Min, .int .i64 x0.Max], .agg #[.int .u32 x1.Addr, .int .i64 x1.Len]] w fun e w' => ∃ v, e = .returned v ∧ v = .bool r ∧ Own I w' (F)
theorem r12_In.ok (k : Nat) : r12_In.C k := by
 intro x0 x1 F I w r hG S H
 have hI := ilr I
 rw [r12_In.f] at H
 refine Calls.ofFW (args := [.agg #[.int .u32 x0.Prefix.Addr, .int .i64 x0.Prefix.Len, .int .i64 x0.Min, .int .i64 x0.Max], .agg #[.int .u32 x1.Addr, .int .i64 x1.Len]]) Tryz.func97 rfl rfl <| sr <| g rfl (o_boxA rfl S fun b1 w S => g rfl (o_boxA rfl S fun b2 w S => mv (.bool false) rfl (sq (rg (u rfl (x_ldA tag69 rfl (S.loadW 1 rfl) rfl) ?_)))))
 obtain ⟨y3, hy4, H⟩ := obx H
 refine g rfl (cl fb44 (@r12_Right.ok k x0 _ _ _ _ hG S hy4) rfl ?_)
 rintro _ w ⟨rfl, S⟩
 refine mv (.bool y3) rfl ?_
 by_cases cc5 : y3 = true
 ·rw [if_pos cc5] at H
  refine gu rfl rfl rfl cc5 (x_fa tf69_0 rfl) <| gu rfl rfl rfl cc5 (x_ldA tag36 rfl (S.loadN 1 rfl 0 2) rfl) <| gu rfl rfl rfl cc5 (x_ldA tag36 rfl (S.loadW 0 rfl) rfl) ?_
  obtain ⟨y6, hy7, H⟩ := obx H
  refine OK.gt rfl rfl rfl cc5 (cl fb124 (@r02_Covers.ok k x0.Prefix x1 _ _ _ _ hG S hy7) rfl ?_)
  rintro _ w ⟨rfl, S⟩
  refine u rfl (x_pickTV (v := .bool y6) rfl cc5 rfl) <| mv (.bool y6) rfl ?_
  by_cases cc8 : y6 = true
  ·rw [if_pos cc8] at H
   refine gu rfl rfl rfl cc8 (x_fa tf69_1 rfl) <| gu rfl rfl rfl cc8 (x_ld tsc3 rfl (S.load 1 rfl 2 rfl)) <| gu rfl rfl rfl cc8 (x_fa tf36_1 rfl) <| gu rfl rfl rfl cc8 (x_ld tsc3 rfl (S.load 0 rfl 1 rfl)) <| gu rfl rfl rfl cc8 (x_bin rfl rfl rfl) <| u rfl (x_pickTV (v := .bool (decide (x0.Min ≤ x1.Len))) rfl cc8 rfl) <| mv (.bool (decide (x0.Min ≤ x1.Len))) rfl ?_
   by_cases cc9 : x0.Min ≤ x1.Len
   ·rw [if_pos cc9] at H
    refine gu rfl rfl rfl (deT cc9) (x_fa tf36_1 rfl) <| gu rfl rfl rfl (deT cc9) (x_ld tsc3 rfl (S.load 0 rfl 1 rfl)) <| gu rfl rfl rfl (deT cc9) (x_fa tf69_2 rfl) <| gu rfl rfl rfl (deT cc9) (x_ld tsc3 rfl (S.load 1 rfl 3 rfl)) <| gu rfl rfl rfl (deT cc9) (x_bin rfl rfl rfl) <| u rfl (x_pickTV (v := .bool (decide (x1.Len ≤ x0.Max))) rfl (deT cc9) rfl) <| mv (.bool (decide (x1.Len ≤ x0.Max))) rfl <| rt ?_
    obtain rfl := si H
    exact ⟨_, ⟨_, rfl, rfl⟩, ⟨rfl, ((S.sel 2 [] rfl).weaken hI)⟩⟩
   rw [if_neg cc9] at H
   refine gn rfl rfl rfl (deF cc9) <| gn rfl rfl rfl (deF cc9) <| gn rfl rfl rfl (deF cc9) <| gn rfl rfl rfl (deF cc9) <| gn rfl rfl rfl (deF cc9) <| u rfl (x_pickFV (v := .bool false) rfl (deF cc9) rfl) <| mv (.bool false) rfl <| rt ?_
   obtain rfl := si H
   exact ⟨_, ⟨_, rfl, rfl⟩, ⟨rfl, ((S.sel 2 [] rfl).weaken hI)⟩⟩
  rw [if_neg cc8] at H
  refine gn rfl rfl rfl (vaF cc8) <| gn rfl rfl rfl (vaF cc8) <| gn rfl rfl rfl (vaF cc8) <| gn rfl rfl rfl (vaF cc8) <| gn rfl rfl rfl (vaF cc8) <| u rfl (x_pickFV (v := .bool false) rfl (vaF cc8) rfl) <| mv (.bool false) rfl <| gn rfl rfl rfl rfl <| gn rfl rfl rfl rfl <| gn rfl rfl rfl rfl <| gn rfl rfl rfl rfl <| gn rfl rfl rfl rfl <| u rfl (x_pickFV (v := .bool false) rfl rfl rfl) <| mv (.bool false) rfl <| rt ?_
  obtain rfl := si H
  exact ⟨_, ⟨_, rfl, rfl⟩, ⟨rfl, ((S.sel 2 [] rfl).weaken hI)⟩⟩
 rw [if_neg cc5] at H
 refine gn rfl rfl rfl (vaF cc5) <| gn rfl rfl rfl (vaF cc5) <| gn rfl rfl rfl (vaF cc5) <| gn rfl rfl rfl (vaF cc5) <| u rfl (x_pickFV (v := .bool false) rfl (vaF cc5) rfl) <| mv (.bool false) rfl <| gn rfl rfl rfl rfl <| gn rfl rfl rfl rfl <| gn rfl rfl rfl rfl <| gn rfl rfl rfl rfl <| gn rfl rfl rfl rfl <| u rfl (x_pickFV (v := .bool false) rfl rfl rfl) <| mv (.bool false) rfl <| gn rfl rfl rfl rfl <| gn rfl rfl rfl rfl <| gn rfl rfl rfl rfl <| gn rfl rfl rfl rfl <| gn rfl rfl rfl rfl <| u rfl (x_pickFV (v := .bool false) rfl rfl rfl) <| mv (.bool false) rfl <| rt ?_
 obtain rfl := si H
 exact ⟨_, ⟨_, rfl, rfl⟩, ⟨rfl, ((S.sel 2 [] rfl).weaken hI)⟩⟩
def r12_Any.l0 : Nat → (List T_api_Range) → T_api_Prefix → Int → Option (Sum Bool Unit)
  | 0, _, _, _ => none
  | k + 1, x0, x1, n3 => (if n3 < (x0.length : Int) then ((lat x0 n3).bind fun y12 => ((r12_In.f k y12 x1).bind fun y20 => (if y20 = true then (some (.inl true)) else (r12_Any.l0 k x0 x1 (i64 (n3 + 1)))))) else (some (.inr ())))
def r12_Any.f (k : Nat) (x0 : (List T_api_Range)) (x1 : T_api_Prefix) : Option Bool := (((r12_Any.l0 k x0 x1 0) : Option (Sum Bool Unit)).bind fun o => match o with | .inl r => some r | .inr _ => (some false))
abbrev r12_Any.C (k : Nat) : Prop := ∀ {x0 : (List T_api_Range)} {x1 : T_api_Prefix} {vx0 : Value} {F : List It} {I : IMem} {w : World} {r : Bool}, Glob I → Own I w (F) → SlR R_api_Range I vx0 x0 → r12_Any.f k x0 x1 = some r →
    Calls Tryz.prog 54 #[vx0, .agg #[.int .u32 x1.Addr, .int .i64 x1.Len]] w fun e w' => ∃ v, e = .returned v ∧ v = .bool r ∧ Own I w' (F)
theorem r12_Any.ok (k : Nat) : r12_Any.C k := by
 intro x0 x1 vx0 F I w r hG S hx0 H
 have hI := ilr I
 rw [r12_Any.f] at H
 refine Calls.ofFW (args := [vx0, .agg #[.int .u32 x1.Addr, .int .i64 x1.Len]]) Tryz.func54 rfl rfl <| sr <| g rfl (o_boxA rfl S fun b1 w S => mv (.bool false) rfl (sq (sq (rg (mv (.int .i64 0) rfl (bk ?_))))))
 obtain ⟨o6, hl8, HO7⟩ := obx H
 refine FW.cutX 0 (fun σ w => ∃ (J9 : IMem), (.inr ()) = o6 ∧ Has σ [] ∧ I.le J9 ∧ Own J9 w (.bk b1 36 [.int .u32 x1.Addr, .int .i64 x1.Len] :: F)) ?_ ?_
 ·refine FW.loop k (FL.ind (fun q σ w => ∃ (n3 : Int) (J2 : IMem), r12_Any.l0 q x0 x1 n3 = some o6 ∧ q ≤ k ∧ Has σ [(0, vx0), (3, pt b1), (5, .int .i64 n3)] ∧ I.le J2 ∧ Own J2 w (.bk b1 36 [.int .u32 x1.Addr, .int .i64 x1.Len] :: F)) ?_ ?_ k k _ _ (Nat.le_refl _) ⟨0, I, hl8, Nat.le_refl _, ⟨rfl, rfl, rfl, trivial⟩, (ilr _), S⟩)
  ·rintro σ w ⟨n3, J2, H, _⟩; cases H
  rintro q4 σ w ⟨n3, J2, H, hq10, hσ, hL5, S⟩
  have hx0 := hx0.mono hL5
  have hI := hI.trans hL5
  have hG := hG.mono hL5
  rw [hσ.eq]
  rw [r12_Any.l0] at H
  refine sq <| sr <| mv (.int .i64 n3) rfl <| mv vx0 rfl <| u rfl (x_lenD (r := R_api_Range) tsl24 hx0) <| u rfl (x_bin rfl rfl rfl) ?_
  by_cases cc11 : n3 < (x0.length : Int)
  ·rw [if_pos cc11] at H
   refine cT rfl (deT cc11) <| sk <| sq <| bk <| sq ?_
   have S := S.drew
   refine FW.regionD mixed ?_
   have hO := Hold.nil (w := { w with drawn := w.drawn + 1 })
   refine am 0 (vx0) rfl (by kernel_rfl) hO <| am 1 (.int .i64 n3) rfl (by kernel_rfl) hO ?_
   obtain ⟨y12, h13, H⟩ := obx H
   refine AQ.pureE 2 rfl (by kernel_rfl) (by kernel_rfl) (by kernel_rfl) rfl hO (e_ia (r := R_api_Range) tsl24 rfl rfl hx0 rfl h13) ?_
   rintro _ ⟨b14, o15, cs16, rfl, hr17, hc18⟩
   obtain rfl := hr17
   have hR19 := ilr J2
   refine ak (Stab J2 []) 3 rfl (by kernel_rfl) hO (Stab.nil S hR19) (fun w hS => x_ldA tag69 rfl (hS.loadI hc18) rfl) fun hO => ak (Stab J2 [.bk b1 36 [.int .u32 x1.Addr, .int .i64 x1.Len]]) 4 rfl (by kernel_rfl) hO (Stab.of S 0 rfl hR19) (fun w hS => x_ldA tag36 rfl (hS.loadW 0 rfl) rfl) fun hO => AQ.one 5 [4, 3] [false, false] (by kernel_rfl) rfl (by kernel_rfl) ?_
   obtain ⟨y20, hy21, H⟩ := obx H
   refine g rfl (cl fb97 (@r12_In.ok q4 y12 x1 _ _ _ _ hG S hy21) rfl ?_)
   rintro _ w ⟨rfl, S⟩
   refine andI Hold.nil fun hO => AQ.done (by kernel_rfl) ?_
   by_cases cc22 : y20 = true
   ·rw [if_pos cc22] at H
    refine cT rfl cc22 <| sq <| FW.anew [] trivial fun σ => rg <| mv (.bool true) rfl <| rt ?_
    obtain rfl := si H
    obtain rfl := si HO7
    exact ⟨_, ⟨_, rfl, rfl⟩, ⟨rfl, ((S.sel 1 [] rfl).weaken hI)⟩⟩
   rw [if_neg cc22] at H
   refine cF rfl (vaF cc22) <| sk <| FW.anew [(0, vx0), (3, pt b1), (5, .int .i64 n3)] ⟨rfl, rfl, rfl, trivial⟩ fun σ => rg <| mv (.int .i64 n3) rfl <| u rfl (x_bin rfl rfl rfl) <| mv (.int .i64 (i64 (n3 + 1))) rfl ⟨q4, Nat.le_refl _, (i64 (n3 + 1)), J2, H, (Nat.le_of_succ_le hq10), ⟨rfl, rfl, rfl, trivial⟩, hL5, S⟩
  rw [if_neg cc11] at H
  refine cF rfl (deF cc11) <| ex ⟨J2, (si H), trivial, hL5, S⟩
 rintro σ w ⟨J9, ho, hσ, hL5, S⟩
 subst ho
 have H := HO7
 try dsimp only at H
 have hI := hI.trans hL5
 rw [hσ.eq]
 refine sr <| mv (.bool false) rfl <| rt ?_
 obtain rfl := si H
 exact ⟨_, ⟨_, rfl, rfl⟩, ⟨rfl, ((S.sel 1 [] rfl).weaken hI)⟩⟩
def r11_still.l0 : Nat → Int → Bool → (List (List Bool)) → Int → Option (List (List Bool))
  | 0, _, _, _, _ => none
  | k + 1, x0, x1, l5, n13 => (if n13 ≤ x0 then ((made 1 false (i64 (x0 + 1))).bind fun l30 => ((lat l30 n13).bind fun y36 => ((app 24 l5 [(l30.set n13.toNat x1)]).bind fun l50 => (r11_still.l0 k x0 x1 l50 (i64 (n13 + 1)))))) else (some l5))
def r11_still.f (k : Nat) (x0 : Int) (x1 : Bool) : Option (List (List Bool)) := ((r11_still.l0 k x0 x1 [] 0).bind fun l20 => (some l20))
abbrev r11_still.C (k : Nat) : Prop := ∀ {x0 : Int} {x1 : Bool} {F : List It} {I : IMem} {w : World} {r : (List (List Bool))}, Glob I → Own I w (F) → r11_still.f k x0 x1 = some r →
    Calls Tryz.prog 125 #[.int .i64 x0, .bool x1] w fun e w' => ∃ v, e = .returned v ∧ ∃ (vy_0 : Value) (cy_0 : List Value) (uy_0 : List Value) (py_0 : List (Value × List Value)) (J : IMem), I.le J ∧ v = vy_0 ∧ Flat tRaw J cy_0 uy_0 ∧ MxR tBool J uy_0 py_0 r ∧ Own J w' (.av vy_0 140 1 cy_0 :: .fam 4 1 py_0 :: F)
theorem r11_still.ok (k : Nat) : r11_still.C k := by
 intro x0 x1 F I w r hG S H
 have hI := ilr I
 rw [r11_still.f] at H
 refine Calls.ofFW (args := [.int .i64 x0, .bool x1]) Tryz.func125 rfl rfl <| sr <| mv ((.slice none 0 0)) rfl <| sr <| mv ((.slice none 0 0)) rfl <| sq <| sr <| mv (.int .i64 0) rfl <| bk ?_
 have S := (S.nil_fam 4 1).nil_av 140 1
 have h2 : Flat tRaw I [] [] := Flat.nil' _ _
 have h3 := MxR.nil tBool I
 obtain ⟨o16, hl18, HO17⟩ := obx H
 refine FW.cutX 0 (fun σ w => ∃ (l20 : (List (List Bool))) (v21 : Value) (a22 : List Value) (u23 : List Value) (p24 : List (Value × List Value)) (J19 : IMem), l20 = o16 ∧ Has σ [(5, v21)] ∧ I.le J19 ∧ Own J19 w (.av v21 140 1 a22 :: .fam 4 1 p24 :: F) ∧ Flat tRaw J19 a22 u23 ∧ MxR tBool J19 u23 p24 l20) ?_ ?_
 ·refine FW.loop k (FL.ind (fun q σ w => ∃ (l5 : (List (List Bool))) (n13 : Int) (v6 : Value) (a7 : List Value) (u8 : List Value) (p9 : List (Value × List Value)) (J4 : IMem), r11_still.l0 q x0 x1 l5 n13 = some o16 ∧ q ≤ k ∧ Has σ [(0, .int .i64 x0), (1, .bool x1), (5, v6), (6, .int .i64 n13)] ∧ I.le J4 ∧ Own J4 w (.av v6 140 1 a7 :: .fam 4 1 p9 :: F) ∧ Flat tRaw J4 a7 u8 ∧ MxR tBool J4 u8 p9 l5) ?_ ?_ k k _ _ (Nat.le_refl _) ⟨[], 0, (.slice none 0 0), [], [], [], I, hl18, Nat.le_refl _, ⟨rfl, rfl, rfl, rfl, trivial⟩, (ilr _), S, h2, h3⟩)
  ·rintro σ w ⟨l5, n13, v6, a7, u8, p9, J4, H, _⟩; cases H
  rintro q14 σ w ⟨l5, n13, v6, a7, u8, p9, J4, H, hq28, hσ, hL15, S, h10, h11⟩
  rw [hσ.eq]
  rw [r11_still.l0] at H
  refine sq <| sr <| mv (.int .i64 n13) rfl <| mv (.int .i64 x0) rfl <| u rfl (x_bin rfl rfl rfl) ?_
  by_cases cc29 : n13 ≤ x0
  ·rw [if_pos cc29] at H
   refine cT rfl (deT cc29) <| sk <| sq <| bk <| sr <| mv (.int .i64 x0) rfl <| u rfl (x_bin rfl rfl rfl) ?_
   obtain ⟨l30, h32, H⟩ := obx H
   refine g rfl (o_mk (r := tBool) (x0 := false) tsl140 tz4 rfl rfl rfl rfl rfl h32 rfl S fun v31 w a34 S h33 => mv v31 rfl (sq (FW.anew [(0, .int .i64 x0), (1, .bool x1), (5, v6), (6, .int .i64 n13), (7, v31)] ⟨rfl, rfl, rfl, rfl, rfl, trivial⟩ fun σ => rg (mv v31 rfl (mv (.int .i64 n13) rfl (mv (.bool x1) rfl ?_))))))
   obtain ⟨y36, h37, H⟩ := obx H
   refine g rfl (o_iaV (r := tBool) tsl140 rfl rfl S 0 rfl h33 rfl h37 fun b38 cs39 cc40 hv41 hr42 hc43 => ?_)
   obtain rfl := hr42
   refine g rfl (o_stV (r := tBool) (f := 0) (y' := x1) tone4 rfl S 0 rfl hv41 h33 h37 rfl hc43 rfl rfl rfl rfl rfl fun w a44 S h45 => rg (mv v6 rfl (mv v31 rfl (g rfl (o_bsl tsl145 tz140 rfl rfl rfl rfl (.one (av_one S 0 rfl) PC.nil) rfl S fun b46 w S => ?_)))))
   obtain ⟨J47, hJ49, S, h48⟩ := S.freeze (r := tRaw) (l := [v31]) 0 rfl ⟨[v31], _, rfl, ⟨rfl, av_one S 1 rfl⟩, rfl⟩ rfl rfl
   have h45 := h45.mono hJ49
   have h10 := h10.mono hJ49
   have h11 := h11.mono hJ49
   have hL15 := hL15.trans hJ49
   obtain ⟨l50, h52, H⟩ := obx H
   refine g rfl (o_appV (r := tRaw) tsl145 rfl tz140 rfl rfl S 2 rfl rfl h10 h48 (app_raw h11 h52) fun v51 w a55 S h53 => ?_)
   have S : Own J47 _ (.av v31 4 1 a44 :: .fam 4 1 p9 :: .tv (.slice (some ⟨b46, 0, none⟩) 1 1) 140 1 :: .av v51 140 1 a55 :: F) := (S.sel 4 [1, 3, 0, 2] rfl)
   obtain ⟨S, h54⟩ := mx_push S h11 h45 h52
   refine mv v51 rfl <| FW.anew [(0, .int .i64 x0), (1, .bool x1), (5, v51), (6, .int .i64 n13)] ⟨rfl, rfl, rfl, rfl, trivial⟩ fun σ => rg <| mv (.int .i64 n13) rfl <| u rfl (x_bin rfl rfl rfl) <| mv (.int .i64 (i64 (n13 + 1))) rfl ⟨q14, Nat.le_refl _, l50, (i64 (n13 + 1)), v51, a55, (u8 ++ [v31]), (p9 ++ [(v31, a44)]), J47, H, (Nat.le_of_succ_le hq28), ⟨rfl, rfl, rfl, rfl, trivial⟩, hL15, (S.sel 3 [2, 0] rfl), h53, h54⟩
  rw [if_neg cc29] at H
  refine cF rfl (deF cc29) <| ex ⟨l5, v6, a7, u8, p9, J4, (si H), ⟨rfl, trivial⟩, hL15, S, h10, h11⟩
 rintro σ w ⟨l20, v21, a22, u23, p24, J19, ho, hσ, hL15, S, h25, h26⟩
 subst ho
 have H := HO17
 have hI := hI.trans hL15
 rw [hσ.eq]
 refine sr <| mv v21 rfl <| mv v21 rfl <| rt ?_
 obtain rfl := si H
 exact ⟨_, ⟨_, rfl, rfl⟩, ⟨v21, a22, u23, p24, J19, hI, rfl, h25, h26, S⟩⟩
def r11_then.l2 : Nat → (List (List Bool)) → (List (List Bool)) → Int → Int → (List (List Bool)) → Int → Option (List (List Bool))
  | 0, _, _, _, _, _, _ => none
  | k + 1, x0, x1, n14, n40, l58, n66 => (if n66 < (x0.length : Int) then ((lat x0 n14).bind fun y83 => ((lat y83 n40).bind fun y90 => (if y90 = true then ((lat l58 n14).bind fun y98 => ((lat y98 n66).bind fun y118 => (if y118 = true then ((lat y98 n66).bind fun y127 => (r11_then.l2 k x0 x1 n14 n40 (l58.set (n14 : Int).toNat (y98.set n66.toNat true)) (i64 (n66 + 1)))) else ((lat x1 n40).bind fun y138 => ((lat y138 n66).bind fun y145 => ((lat y98 n66).bind fun y152 => (r11_then.l2 k x0 x1 n14 n40 (l58.set (n14 : Int).toNat (y98.set n66.toNat y145)) (i64 (n66 + 1))))))))) else (some l58)))) else (some l58))
def r11_then.l1 : Nat → (List (List Bool)) → (List (List Bool)) → Int → (List (List Bool)) → Int → Option (List (List Bool))
  | 0, _, _, _, _, _ => none
  | k + 1, x0, x1, n14, l32, n40 => (if n40 < (x0.length : Int) then ((r11_then.l2 k x0 x1 n14 n40 l32 n40).bind fun l73 => (r11_then.l1 k x0 x1 n14 l73 (i64 (n40 + 1)))) else (some l32))
def r11_then.l0 : Nat → (List (List Bool)) → (List (List Bool)) → (List (List Bool)) → Int → Option (List (List Bool))
  | 0, _, _, _, _ => none
  | k + 1, x0, x1, l6, n14 => (if n14 < (x0.length : Int) then ((r11_then.l1 k x0 x1 n14 l6 n14).bind fun l47 => (r11_then.l0 k x0 x1 l47 (i64 (n14 + 1)))) else (some l6))
def r11_then.f (k : Nat) (x0 : (List (List Bool))) (x1 : (List (List Bool))) : Option (List (List Bool)) := ((r11_still.f k (i64 ((x0.length : Int) - 1)) false).bind fun y1 => ((r11_then.l0 k x0 x1 y1 0).bind fun l21 => (some l21)))
abbrev r11_then.C (k : Nat) : Prop := ∀ {x0 : (List (List Bool))} {x1 : (List (List Bool))} {vx0 : Value} {vx1 : Value} {F : List It} {I : IMem} {w : World} {r : (List (List Bool))}, Glob I → Own I w (F) → SlR (tSlice tBool) I vx0 x0 → SlR (tSlice tBool) I vx1 x1 → r11_then.f k x0 x1 = some r →
    Calls Tryz.prog 126 #[vx0, vx1] w fun e w' => ∃ v, e = .returned v ∧ ∃ (vy_0 : Value) (cy_0 : List Value) (uy_0 : List Value) (py_0 : List (Value × List Value)) (J : IMem), I.le J ∧ v = vy_0 ∧ Flat tRaw J cy_0 uy_0 ∧ MxR tBool J uy_0 py_0 r ∧ Own J w' (.av vy_0 140 1 cy_0 :: .fam 4 1 py_0 :: F)
theorem r11_then.ok (k : Nat) : r11_then.C k := by
 intro x0 x1 vx0 vx1 F I w r hG S hx0 hx1 H
 have hI := ilr I
 rw [r11_then.f] at H
 refine Calls.ofFW (args := [vx0, vx1]) Tryz.func126 rfl rfl <| sr <| mv ((.slice none 0 0)) rfl <| sr <| mv vx0 rfl <| u rfl (x_lenD (r := (tSlice tBool)) tsl145 hx0) <| u rfl (x_bin rfl rfl rfl) ?_
 obtain ⟨y1, hy2, H⟩ := obx H
 refine g rfl (cl fb125 (@r11_still.ok k (i64 ((x0.length : Int) - 1)) false _ _ _ _ hG S hy2) rfl ?_)
 rintro vy1_0 w ⟨vy1_0q, cy1_0, uy1_0, py1_0, J3, hJ4, rfl, hy1_0, my1_0, S⟩
 have hx0 := hx0.mono hJ4
 have hx1 := hx1.mono hJ4
 have hI := hI.trans hJ4
 refine mv vy1_0 rfl <| sq <| sr <| mv (.int .i64 0) rfl <| bk ?_
 obtain ⟨o17, hl19, HO18⟩ := obx H
 refine FW.cutX 0 (fun σ w => ∃ (l21 : (List (List Bool))) (v22 : Value) (a23 : List Value) (u24 : List Value) (p25 : List (Value × List Value)) (J20 : IMem), l21 = o17 ∧ Has σ [(5, v22)] ∧ J3.le J20 ∧ Own J20 w (.av v22 140 1 a23 :: .fam 4 1 p25 :: F) ∧ Flat tRaw J20 a23 u24 ∧ MxR tBool J20 u24 p25 l21) ?_ ?_
 ·refine FW.loop k (FL.ind (fun q σ w => ∃ (l6 : (List (List Bool))) (n14 : Int) (v7 : Value) (a8 : List Value) (u9 : List Value) (p10 : List (Value × List Value)) (J5 : IMem), r11_then.l0 q x0 x1 l6 n14 = some o17 ∧ q ≤ k ∧ Has σ [(0, vx0), (1, vx1), (5, v7), (6, .int .i64 n14)] ∧ J3.le J5 ∧ Own J5 w (.av v7 140 1 a8 :: .fam 4 1 p10 :: F) ∧ Flat tRaw J5 a8 u9 ∧ MxR tBool J5 u9 p10 l6) ?_ ?_ k k _ _ (Nat.le_refl _) ⟨y1, 0, vy1_0, cy1_0, uy1_0, py1_0, J3, hl19, Nat.le_refl _, ⟨rfl, rfl, rfl, rfl, trivial⟩, (ilr _), S, hy1_0, my1_0⟩)
  ·rintro σ w ⟨l6, n14, v7, a8, u9, p10, J5, H, _⟩; cases H
  rintro q15 σ w ⟨l6, n14, v7, a8, u9, p10, J5, H, hq29, hσ, hL16, S, h11, h12⟩
  have hx0 := hx0.mono hL16
  have hx1 := hx1.mono hL16
  rw [hσ.eq]
  rw [r11_then.l0] at H
  refine sq <| sr <| mv (.int .i64 n14) rfl <| mv vx0 rfl <| u rfl (x_lenD (r := (tSlice tBool)) tsl145 hx0) <| u rfl (x_bin rfl rfl rfl) ?_
  by_cases cc30 : n14 < (x0.length : Int)
  ·rw [if_pos cc30] at H
   refine cT rfl (deT cc30) <| sk <| sq <| bk <| sr <| mv (.int .i64 n14) rfl <| mv (.int .i64 n14) rfl <| bk ?_
   obtain ⟨o43, hl45, HO44⟩ := obx H
   refine FW.cutX 2 (fun σ w => ∃ (l47 : (List (List Bool))) (v48 : Value) (a49 : List Value) (u50 : List Value) (p51 : List (Value × List Value)) (J46 : IMem), l47 = o43 ∧ Has σ [(0, vx0), (1, vx1), (5, v48), (6, .int .i64 n14)] ∧ J5.le J46 ∧ Own J46 w (.av v48 140 1 a49 :: .fam 4 1 p51 :: F) ∧ Flat tRaw J46 a49 u50 ∧ MxR tBool J46 u50 p51 l47) ?_ ?_
   ·refine FW.loop q15 (FL.ind (fun q σ w => ∃ (l32 : (List (List Bool))) (n40 : Int) (v33 : Value) (a34 : List Value) (u35 : List Value) (p36 : List (Value × List Value)) (J31 : IMem), r11_then.l1 q x0 x1 n14 l32 n40 = some o43 ∧ q ≤ q15 ∧ Has σ [(0, vx0), (1, vx1), (5, v33), (6, .int .i64 n14), (7, .int .i64 n40)] ∧ J5.le J31 ∧ Own J31 w (.av v33 140 1 a34 :: .fam 4 1 p36 :: F) ∧ Flat tRaw J31 a34 u35 ∧ MxR tBool J31 u35 p36 l32) ?_ ?_ q15 q15 _ _ (Nat.le_refl _) ⟨l6, n14, v7, a8, u9, p10, J5, hl45, Nat.le_refl _, ⟨rfl, rfl, rfl, rfl, rfl, trivial⟩, (ilr _), S, h11, h12⟩)
    ·rintro σ w ⟨l32, n40, v33, a34, u35, p36, J31, H, _⟩; cases H
    rintro q41 σ w ⟨l32, n40, v33, a34, u35, p36, J31, H, hq55, hσ, hL42, S, h37, h38⟩
    have hx0 := hx0.mono hL42
    have hx1 := hx1.mono hL42
    rw [hσ.eq]
    rw [r11_then.l1] at H
    refine sq <| sr <| mv (.int .i64 n40) rfl <| mv vx0 rfl <| u rfl (x_lenD (r := (tSlice tBool)) tsl145 hx0) <| u rfl (x_bin rfl rfl rfl) ?_
    by_cases cc56 : n40 < (x0.length : Int)
    ·rw [if_pos cc56] at H
     refine cT rfl (deT cc56) <| sk <| sq <| bk <| sr <| mv (.int .i64 n40) rfl <| mv (.int .i64 n40) rfl <| bk ?_
     obtain ⟨o69, hl71, HO70⟩ := obx H
     refine FW.cutX 4 (fun σ w => ∃ (l73 : (List (List Bool))) (v74 : Value) (a75 : List Value) (u76 : List Value) (p77 : List (Value × List Value)) (J72 : IMem), l73 = o69 ∧ Has σ [(0, vx0), (1, vx1), (5, v74), (6, .int .i64 n14), (7, .int .i64 n40)] ∧ J31.le J72 ∧ Own J72 w (.av v74 140 1 a75 :: .fam 4 1 p77 :: F) ∧ Flat tRaw J72 a75 u76 ∧ MxR tBool J72 u76 p77 l73) ?_ ?_
     ·refine FW.loop q41 (FL.ind (fun q σ w => ∃ (l58 : (List (List Bool))) (n66 : Int) (v59 : Value) (a60 : List Value) (u61 : List Value) (p62 : List (Value × List Value)) (J57 : IMem), r11_then.l2 q x0 x1 n14 n40 l58 n66 = some o69 ∧ q ≤ q41 ∧ Has σ [(0, vx0), (1, vx1), (5, v59), (6, .int .i64 n14), (7, .int .i64 n40), (8, .int .i64 n66)] ∧ J31.le J57 ∧ Own J57 w (.av v59 140 1 a60 :: .fam 4 1 p62 :: F) ∧ Flat tRaw J57 a60 u61 ∧ MxR tBool J57 u61 p62 l58) ?_ ?_ q41 q41 _ _ (Nat.le_refl _) ⟨l32, n40, v33, a34, u35, p36, J31, hl71, Nat.le_refl _, ⟨rfl, rfl, rfl, rfl, rfl, rfl, trivial⟩, (ilr _), S, h37, h38⟩)
      ·rintro σ w ⟨l58, n66, v59, a60, u61, p62, J57, H, _⟩; cases H
      rintro q67 σ w ⟨l58, n66, v59, a60, u61, p62, J57, H, hq81, hσ, hL68, S, h63, h64⟩
      have hx0 := hx0.mono hL68
      have hx1 := hx1.mono hL68
      rw [hσ.eq]
      rw [r11_then.l2] at H
      refine sq <| sr <| mv (.int .i64 n66) rfl <| mv vx0 rfl <| u rfl (x_lenD (r := (tSlice tBool)) tsl145 hx0) <| u rfl (x_bin rfl rfl rfl) <| mv (.bool (decide (n66 < (x0.length : Int)))) rfl ?_
      by_cases cc82 : n66 < (x0.length : Int)
      ·rw [if_pos cc82] at H
       refine gu rfl rfl rfl (deT cc82) (x_movV (v := vx0) rfl) <| gu rfl rfl rfl (deT cc82) (x_movV (v := .int .i64 n14) rfl) ?_
       obtain ⟨y83, h84, H⟩ := obx H
       refine OK.gt rfl rfl rfl (deT cc82) (o_ia (r := (tSlice tBool)) tsl145 rfl rfl hx0 rfl h84 fun b85 o86 cs87 hr88 hc89 => ?_)
       obtain ⟨y83v, rfl, y83h⟩ := hr88
       refine gu rfl rfl rfl (deT cc82) (x_ld tsc140 rfl (S.cell _ _ _ (hc89 0 _ rfl))) <| gu rfl rfl rfl (deT cc82) (x_movV (v := .int .i64 n40) rfl) ?_
       obtain ⟨y90, h91, H⟩ := obx H
       refine OK.gt rfl rfl rfl (deT cc82) (o_ia (r := tBool) tsl140 rfl rfl y83h rfl h91 fun b92 o93 cs94 hr95 hc96 => ?_)
       obtain rfl := hr95
       refine gu rfl rfl rfl (deT cc82) (x_ld tsc4 rfl (S.cell _ _ _ (hc96 0 _ rfl))) <| u rfl (x_pickTV (v := .bool y90) rfl (deT cc82) rfl) ?_
       by_cases cc97 : y90 = true
       ·rw [if_pos cc97] at H
        refine cT rfl cc97 <| sk <| sq <| bk <| FW.anew [(0, vx0), (1, vx1), (5, v59), (6, .int .i64 n14), (7, .int .i64 n40), (8, .int .i64 n66)] ⟨rfl, rfl, rfl, rfl, rfl, rfl, trivial⟩ fun σ => ?_
        have S := S.drew
        refine FW.regionD mixed ?_
        have hO := Hold.nil (w := { w with drawn := w.drawn + 1 })
        refine am 0 (v59) rfl (by kernel_rfl) hO <| am 1 (.int .i64 n14) rfl (by kernel_rfl) hO ?_
        obtain ⟨y98, h99, H⟩ := obx H
        have S : Own J57 _ (.fam 4 1 p62 :: .av v59 140 1 a60 :: F) := (S.sel 2 [1, 0] rfl)
        obtain ⟨v100, a101, hl102, hp103, h104, S⟩ := mx_at S h64 h99
        refine AQ.pureE 2 rfl (by kernel_rfl) (by kernel_rfl) (by kernel_rfl) rfl hO (e_iaVD (r := tRaw) tsl145 rfl rfl S 2 rfl h63 rfl hl102) ?_
        rintro _ ⟨b105, cs106, cc107, rfl, hv108, hr109, hc110⟩
        obtain ⟨rfl, _⟩ := hr109
        have hR111 := ilr J57
        refine ak (Stab J57 [.av v59 140 1 a60]) 3 rfl (by kernel_rfl) hO (Stab.of S 2 rfl hR111) (fun w hS => x_ld tsc140 rfl (hS.loadV 0 rfl hv108 (hc110 0 _ rfl))) fun hO => am 4 (.int .i64 n66) rfl (by kernel_rfl) hO <| am 5 (v59) rfl (by kernel_rfl) hO <| am 6 (.int .i64 n14) rfl (by kernel_rfl) hO <| AQ.pureE 7 rfl (by kernel_rfl) (by kernel_rfl) (by kernel_rfl) rfl hO (e_iaVD (r := tRaw) tsl145 rfl rfl S 2 rfl h63 rfl hl102) ?_
        rintro _ ⟨b112, cs113, cc114, rfl, hv115, hr116, hc117⟩
        obtain ⟨rfl, _⟩ := hr116
        refine ak (Stab J57 [.av v59 140 1 a60]) 8 rfl (by kernel_rfl) hO (Stab.of S 2 rfl hR111) (fun w hS => x_ld tsc140 rfl (hS.loadV 0 rfl hv115 (hc117 0 _ rfl))) fun hO => am 9 (.int .i64 n66) rfl (by kernel_rfl) hO ?_
        obtain ⟨y118, h119, H⟩ := obx H
        refine AQ.pureE 10 rfl (by kernel_rfl) (by kernel_rfl) (by kernel_rfl) rfl hO (e_iaVD (r := tBool) tsl140 rfl rfl S 0 rfl h104 rfl h119) ?_
        rintro _ ⟨b120, cs121, cc122, rfl, hv123, hr124, hc125⟩
        obtain rfl := hr124
        refine ak (Stab J57 [.av v100 4 1 a101]) 11 rfl (by kernel_rfl) hO (Stab.of S 0 rfl hR111) (fun w hS => x_ld tsc4 rfl (hS.loadV 0 rfl hv123 (hc125 0 _ rfl))) fun hO => am 12 (.bool y118) rfl (by kernel_rfl) hO ?_
        by_cases cc126 : y118 = true
        ·rw [if_pos cc126] at H
         refine AQ.skip 13 rfl (by kernel_rfl) (by kernel_rfl) (by kernel_rfl) rfl rfl cc126 hO <| AQ.skip 14 rfl (by kernel_rfl) (by kernel_rfl) (by kernel_rfl) rfl rfl cc126 hO <| AQ.skip 15 rfl (by kernel_rfl) (by kernel_rfl) (by kernel_rfl) rfl rfl cc126 hO <| AQ.skip 16 rfl (by kernel_rfl) (by kernel_rfl) (by kernel_rfl) rfl rfl cc126 hO <| AQ.skip 17 rfl (by kernel_rfl) (by kernel_rfl) (by kernel_rfl) rfl rfl cc126 hO <| AQ.skip 18 rfl (by kernel_rfl) (by kernel_rfl) (by kernel_rfl) rfl rfl cc126 hO <| AQ.skip 19 rfl (by kernel_rfl) (by kernel_rfl) (by kernel_rfl) rfl rfl cc126 hO <| ap 20 rfl (by kernel_rfl) hO (fun w => x_pickTV (v := .bool true) rfl cc126 rfl) ?_
         obtain ⟨y127, h128, H⟩ := obx H
         refine AQ.pureE 21 rfl (by kernel_rfl) (by kernel_rfl) (by kernel_rfl) rfl hO (e_iaVD (r := tBool) tsl140 rfl rfl S 0 rfl h104 rfl h128) ?_
         rintro _ ⟨b129, cs130, cc131, rfl, hv132, hr133, hc134⟩
         obtain rfl := hr133
         refine AQ.one 22 [11, 8, 3] [false, false, false] (by kernel_rfl) rfl (by kernel_rfl) <| g rfl (o_stV (r := tBool) (f := 0) (y' := true) tone4 rfl S 0 rfl hv132 h104 h128 rfl hc134 rfl rfl rfl rfl rfl fun w a135 S h136 => andI Hold.nil fun hO => AQ.done (by kernel_rfl) ?_)
         obtain ⟨S, h137⟩ := mx_back S hp103 h64 h136
         refine FW.anew [(0, vx0), (1, vx1), (5, v59), (6, .int .i64 n14), (7, .int .i64 n40), (8, .int .i64 n66)] ⟨rfl, rfl, rfl, rfl, rfl, rfl, trivial⟩ fun σ => rg <| mv (.int .i64 n66) rfl <| u rfl (x_bin rfl rfl rfl) <| mv (.int .i64 (i64 (n66 + 1))) rfl ⟨q67, Nat.le_refl _, (l58.set (n14 : Int).toNat (y98.set n66.toNat true)), (i64 (n66 + 1)), v59, a60, u61, (p62.set (n14 : Int).toNat (v100, a135)), J57, H, (Nat.le_of_succ_le hq81), ⟨rfl, rfl, rfl, rfl, rfl, rfl, trivial⟩, hL68, (S.sel 2 [1, 0] rfl), h63, h137⟩
        rw [if_neg cc126] at H
        refine AQ.pure 13 rfl (by kernel_rfl) (by kernel_rfl) (by kernel_rfl) (gT rfl rfl (vaF cc126)) hO (fun w => x_movV (v := vx1) rfl) <| AQ.pure 14 rfl (by kernel_rfl) (by kernel_rfl) (by kernel_rfl) (gT rfl rfl (vaF cc126)) hO (fun w => x_movV (v := .int .i64 n40) rfl) ?_
        obtain ⟨y138, h139, H⟩ := obx H
        refine AQ.pureE 15 rfl (by kernel_rfl) (by kernel_rfl) (by kernel_rfl) (gT rfl rfl (vaF cc126)) hO (e_ia (r := (tSlice tBool)) tsl145 rfl rfl hx1 rfl h139) ?_
        rintro _ ⟨b140, o141, cs142, rfl, hr143, hc144⟩
        obtain ⟨y138v, rfl, y138h⟩ := hr143
        refine AQ.take (S := Stab J57 []) 16 rfl (by kernel_rfl) (by kernel_rfl) (by kernel_rfl) (gT rfl rfl (vaF cc126)) hO (Stab.nil S hR111) (fun w hS => x_ld tsc140 rfl (hS.cell _ _ _ (hc144 0 _ rfl))) fun hO => AQ.pure 17 rfl (by kernel_rfl) (by kernel_rfl) (by kernel_rfl) (gT rfl rfl (vaF cc126)) hO (fun w => x_movV (v := .int .i64 n66) rfl) ?_
        obtain ⟨y145, h146, H⟩ := obx H
        refine AQ.pureE 18 rfl (by kernel_rfl) (by kernel_rfl) (by kernel_rfl) (gT rfl rfl (vaF cc126)) hO (e_ia (r := tBool) tsl140 rfl rfl y138h rfl h146) ?_
        rintro _ ⟨b147, o148, cs149, rfl, hr150, hc151⟩
        obtain rfl := hr150
        refine AQ.take (S := Stab J57 []) 19 rfl (by kernel_rfl) (by kernel_rfl) (by kernel_rfl) (gT rfl rfl (vaF cc126)) hO (Stab.nil S hR111) (fun w hS => x_ld tsc4 rfl (hS.cell _ _ _ (hc151 0 _ rfl))) fun hO => ap 20 rfl (by kernel_rfl) hO (fun w => x_pickFV (v := .bool y145) rfl (vaF cc126) rfl) ?_
        obtain ⟨y152, h153, H⟩ := obx H
        refine AQ.pureE 21 rfl (by kernel_rfl) (by kernel_rfl) (by kernel_rfl) rfl hO (e_iaVD (r := tBool) tsl140 rfl rfl S 0 rfl h104 rfl h153) ?_
        rintro _ ⟨b154, cs155, cc156, rfl, hv157, hr158, hc159⟩
        obtain rfl := hr158
        refine AQ.one 22 [19, 16, 11, 8, 3] [false, false, false, false, false] (by kernel_rfl) rfl (by kernel_rfl) <| g rfl (o_stV (r := tBool) (f := 0) (y' := y145) tone4 rfl S 0 rfl hv157 h104 h153 rfl hc159 rfl rfl rfl rfl rfl fun w a160 S h161 => andI Hold.nil fun hO => AQ.done (by kernel_rfl) ?_)
        obtain ⟨S, h162⟩ := mx_back S hp103 h64 h161
        refine FW.anew [(0, vx0), (1, vx1), (5, v59), (6, .int .i64 n14), (7, .int .i64 n40), (8, .int .i64 n66)] ⟨rfl, rfl, rfl, rfl, rfl, rfl, trivial⟩ fun σ => rg <| mv (.int .i64 n66) rfl <| u rfl (x_bin rfl rfl rfl) <| mv (.int .i64 (i64 (n66 + 1))) rfl ⟨q67, Nat.le_refl _, (l58.set (n14 : Int).toNat (y98.set n66.toNat y145)), (i64 (n66 + 1)), v59, a60, u61, (p62.set (n14 : Int).toNat (v100, a160)), J57, H, (Nat.le_of_succ_le hq81), ⟨rfl, rfl, rfl, rfl, rfl, rfl, trivial⟩, hL68, (S.sel 2 [1, 0] rfl), h63, h162⟩
       rw [if_neg cc97] at H
       refine cF rfl (vaF cc97) <| ex ⟨l58, v59, a60, u61, p62, J57, (si H), ⟨rfl, rfl, rfl, rfl, rfl, trivial⟩, hL68, S, h63, h64⟩
      rw [if_neg cc82] at H
      refine gn rfl rfl rfl (deF cc82) <| gn rfl rfl rfl (deF cc82) <| gn rfl rfl rfl (deF cc82) <| gn rfl rfl rfl (deF cc82) <| gn rfl rfl rfl (deF cc82) <| gn rfl rfl rfl (deF cc82) <| gn rfl rfl rfl (deF cc82) <| u rfl (x_pickFV (v := .bool false) rfl (deF cc82) rfl) <| cF rfl rfl <| ex ⟨l58, v59, a60, u61, p62, J57, (si H), ⟨rfl, rfl, rfl, rfl, rfl, trivial⟩, hL68, S, h63, h64⟩
     rintro σ w ⟨l73, v74, a75, u76, p77, J72, ho, hσ, hL68, S, h78, h79⟩
     subst ho
     have H := HO70
     have hL42 := hL42.trans hL68
     rw [hσ.eq]
     refine rg <| mv (.int .i64 n40) rfl <| u rfl (x_bin rfl rfl rfl) <| mv (.int .i64 (i64 (n40 + 1))) rfl ⟨q41, Nat.le_refl _, l73, (i64 (n40 + 1)), v74, a75, u76, p77, J72, H, (Nat.le_of_succ_le hq55), ⟨rfl, rfl, rfl, rfl, rfl, trivial⟩, hL42, S, h78, h79⟩
    rw [if_neg cc56] at H
    refine cF rfl (deF cc56) <| ex ⟨l32, v33, a34, u35, p36, J31, (si H), ⟨rfl, rfl, rfl, rfl, trivial⟩, hL42, S, h37, h38⟩
   rintro σ w ⟨l47, v48, a49, u50, p51, J46, ho, hσ, hL42, S, h52, h53⟩
   subst ho
   have H := HO44
   have hL16 := hL16.trans hL42
   rw [hσ.eq]
   refine rg <| mv (.int .i64 n14) rfl <| u rfl (x_bin rfl rfl rfl) <| mv (.int .i64 (i64 (n14 + 1))) rfl ⟨q15, Nat.le_refl _, l47, (i64 (n14 + 1)), v48, a49, u50, p51, J46, H, (Nat.le_of_succ_le hq29), ⟨rfl, rfl, rfl, rfl, trivial⟩, hL16, S, h52, h53⟩
  rw [if_neg cc30] at H
  refine cF rfl (deF cc30) <| ex ⟨l6, v7, a8, u9, p10, J5, (si H), ⟨rfl, trivial⟩, hL16, S, h11, h12⟩
 rintro σ w ⟨l21, v22, a23, u24, p25, J20, ho, hσ, hL16, S, h26, h27⟩
 subst ho
 have H := HO18
 have hI := hI.trans hL16
 rw [hσ.eq]
 refine sr <| mv v22 rfl <| mv v22 rfl <| rt ?_
 obtain rfl := si H
 exact ⟨_, ⟨_, rfl, rfl⟩, ⟨v22, a23, u24, p25, J20, hI, rfl, h26, h27, S⟩⟩
def r11_either.l1 : Nat → (List (List Bool)) → (List (List Bool)) → Int → (List (List Bool)) → Int → Option (List (List Bool))
  | 0, _, _, _, _, _ => none
  | k + 1, x0, x1, n14, l32, n40 => (if n40 < (x0.length : Int) then ((lat l32 n14).bind fun y57 => ((lat x0 n14).bind fun y71 => ((lat y71 n40).bind fun y78 => (if y78 = true then ((lat y57 n40).bind fun y86 => (r11_either.l1 k x0 x1 n14 (l32.set (n14 : Int).toNat (y57.set n40.toNat true)) (i64 (n40 + 1)))) else ((lat x1 n14).bind fun y97 => ((lat y97 n40).bind fun y104 => ((lat y57 n40).bind fun y111 => (r11_either.l1 k x0 x1 n14 (l32.set (n14 : Int).toNat (y57.set n40.toNat y104)) (i64 (n40 + 1)))))))))) else (some l32))
def r11_either.l0 : Nat → (List (List Bool)) → (List (List Bool)) → (List (List Bool)) → Int → Option (List (List Bool))
  | 0, _, _, _, _ => none
  | k + 1, x0, x1, l6, n14 => (if n14 < (x0.length : Int) then ((r11_either.l1 k x0 x1 n14 l6 0).bind fun l47 => (r11_either.l0 k x0 x1 l47 (i64 (n14 + 1)))) else (some l6))
def r11_either.f (k : Nat) (x0 : (List (List Bool))) (x1 : (List (List Bool))) : Option (List (List Bool)) := ((r11_still.f k (i64 ((x0.length : Int) - 1)) false).bind fun y1 => ((r11_either.l0 k x0 x1 y1 0).bind fun l21 => (some l21)))
abbrev r11_either.C (k : Nat) : Prop := ∀ {x0 : (List (List Bool))} {x1 : (List (List Bool))} {vx0 : Value} {vx1 : Value} {F : List It} {I : IMem} {w : World} {r : (List (List Bool))}, Glob I → Own I w (F) → SlR (tSlice tBool) I vx0 x0 → SlR (tSlice tBool) I vx1 x1 → r11_either.f k x0 x1 = some r →
    Calls Tryz.prog 127 #[vx0, vx1] w fun e w' => ∃ v, e = .returned v ∧ ∃ (vy_0 : Value) (cy_0 : List Value) (uy_0 : List Value) (py_0 : List (Value × List Value)) (J : IMem), I.le J ∧ v = vy_0 ∧ Flat tRaw J cy_0 uy_0 ∧ MxR tBool J uy_0 py_0 r ∧ Own J w' (.av vy_0 140 1 cy_0 :: .fam 4 1 py_0 :: F)
theorem r11_either.ok (k : Nat) : r11_either.C k := by
 intro x0 x1 vx0 vx1 F I w r hG S hx0 hx1 H
 have hI := ilr I
 rw [r11_either.f] at H
 refine Calls.ofFW (args := [vx0, vx1]) Tryz.func127 rfl rfl <| sr <| mv ((.slice none 0 0)) rfl <| sr <| mv vx0 rfl <| u rfl (x_lenD (r := (tSlice tBool)) tsl145 hx0) <| u rfl (x_bin rfl rfl rfl) ?_
 obtain ⟨y1, hy2, H⟩ := obx H
 refine g rfl (cl fb125 (@r11_still.ok k (i64 ((x0.length : Int) - 1)) false _ _ _ _ hG S hy2) rfl ?_)
 rintro vy1_0 w ⟨vy1_0q, cy1_0, uy1_0, py1_0, J3, hJ4, rfl, hy1_0, my1_0, S⟩
 have hx0 := hx0.mono hJ4
 have hx1 := hx1.mono hJ4
 have hI := hI.trans hJ4
 refine mv vy1_0 rfl <| sq <| sr <| mv (.int .i64 0) rfl <| bk ?_
 obtain ⟨o17, hl19, HO18⟩ := obx H
 refine FW.cutX 0 (fun σ w => ∃ (l21 : (List (List Bool))) (v22 : Value) (a23 : List Value) (u24 : List Value) (p25 : List (Value × List Value)) (J20 : IMem), l21 = o17 ∧ Has σ [(5, v22)] ∧ J3.le J20 ∧ Own J20 w (.av v22 140 1 a23 :: .fam 4 1 p25 :: F) ∧ Flat tRaw J20 a23 u24 ∧ MxR tBool J20 u24 p25 l21) ?_ ?_
 ·refine FW.loop k (FL.ind (fun q σ w => ∃ (l6 : (List (List Bool))) (n14 : Int) (v7 : Value) (a8 : List Value) (u9 : List Value) (p10 : List (Value × List Value)) (J5 : IMem), r11_either.l0 q x0 x1 l6 n14 = some o17 ∧ q ≤ k ∧ Has σ [(0, vx0), (1, vx1), (5, v7), (6, .int .i64 n14)] ∧ J3.le J5 ∧ Own J5 w (.av v7 140 1 a8 :: .fam 4 1 p10 :: F) ∧ Flat tRaw J5 a8 u9 ∧ MxR tBool J5 u9 p10 l6) ?_ ?_ k k _ _ (Nat.le_refl _) ⟨y1, 0, vy1_0, cy1_0, uy1_0, py1_0, J3, hl19, Nat.le_refl _, ⟨rfl, rfl, rfl, rfl, trivial⟩, (ilr _), S, hy1_0, my1_0⟩)
  ·rintro σ w ⟨l6, n14, v7, a8, u9, p10, J5, H, _⟩; cases H
  rintro q15 σ w ⟨l6, n14, v7, a8, u9, p10, J5, H, hq29, hσ, hL16, S, h11, h12⟩
  have hx0 := hx0.mono hL16
  have hx1 := hx1.mono hL16
  rw [hσ.eq]
  rw [r11_either.l0] at H
  refine sq <| sr <| mv (.int .i64 n14) rfl <| mv vx0 rfl <| u rfl (x_lenD (r := (tSlice tBool)) tsl145 hx0) <| u rfl (x_bin rfl rfl rfl) ?_
  by_cases cc30 : n14 < (x0.length : Int)
  ·rw [if_pos cc30] at H
   refine cT rfl (deT cc30) <| sk <| sq <| bk <| sr <| mv (.int .i64 0) rfl <| bk ?_
   obtain ⟨o43, hl45, HO44⟩ := obx H
   refine FW.cutX 2 (fun σ w => ∃ (l47 : (List (List Bool))) (v48 : Value) (a49 : List Value) (u50 : List Value) (p51 : List (Value × List Value)) (J46 : IMem), l47 = o43 ∧ Has σ [(0, vx0), (1, vx1), (5, v48), (6, .int .i64 n14)] ∧ J5.le J46 ∧ Own J46 w (.av v48 140 1 a49 :: .fam 4 1 p51 :: F) ∧ Flat tRaw J46 a49 u50 ∧ MxR tBool J46 u50 p51 l47) ?_ ?_
   ·refine FW.loop q15 (FL.ind (fun q σ w => ∃ (l32 : (List (List Bool))) (n40 : Int) (v33 : Value) (a34 : List Value) (u35 : List Value) (p36 : List (Value × List Value)) (J31 : IMem), r11_either.l1 q x0 x1 n14 l32 n40 = some o43 ∧ q ≤ q15 ∧ Has σ [(0, vx0), (1, vx1), (5, v33), (6, .int .i64 n14), (7, .int .i64 n40)] ∧ J5.le J31 ∧ Own J31 w (.av v33 140 1 a34 :: .fam 4 1 p36 :: F) ∧ Flat tRaw J31 a34 u35 ∧ MxR tBool J31 u35 p36 l32) ?_ ?_ q15 q15 _ _ (Nat.le_refl _) ⟨l6, 0, v7, a8, u9, p10, J5, hl45, Nat.le_refl _, ⟨rfl, rfl, rfl, rfl, rfl, trivial⟩, (ilr _), S, h11, h12⟩)
    ·rintro σ w ⟨l32, n40, v33, a34, u35, p36, J31, H, _⟩; cases H
    rintro q41 σ w ⟨l32, n40, v33, a34, u35, p36, J31, H, hq55, hσ, hL42, S, h37, h38⟩
    have hx0 := hx0.mono hL42
    have hx1 := hx1.mono hL42
    rw [hσ.eq]
    rw [r11_either.l1] at H
    refine sq <| sr <| mv (.int .i64 n40) rfl <| mv vx0 rfl <| u rfl (x_lenD (r := (tSlice tBool)) tsl145 hx0) <| u rfl (x_bin rfl rfl rfl) ?_
    by_cases cc56 : n40 < (x0.length : Int)
    ·rw [if_pos cc56] at H
     refine cT rfl (deT cc56) <| sk <| sq <| bk ?_
     have S := S.drew
     refine FW.regionD mixed ?_
     have hO := Hold.nil (w := { w with drawn := w.drawn + 1 })
     refine am 0 (v33) rfl (by kernel_rfl) hO <| am 1 (.int .i64 n14) rfl (by kernel_rfl) hO ?_
     obtain ⟨y57, h58, H⟩ := obx H
     have S : Own J31 _ (.fam 4 1 p36 :: .av v33 140 1 a34 :: F) := (S.sel 2 [1, 0] rfl)
     obtain ⟨v59, a60, hl61, hp62, h63, S⟩ := mx_at S h38 h58
     refine AQ.pureE 2 rfl (by kernel_rfl) (by kernel_rfl) (by kernel_rfl) rfl hO (e_iaVD (r := tRaw) tsl145 rfl rfl S 2 rfl h37 rfl hl61) ?_
     rintro _ ⟨b64, cs65, cc66, rfl, hv67, hr68, hc69⟩
     obtain ⟨rfl, _⟩ := hr68
     have hR70 := ilr J31
     refine ak (Stab J31 [.av v33 140 1 a34]) 3 rfl (by kernel_rfl) hO (Stab.of S 2 rfl hR70) (fun w hS => x_ld tsc140 rfl (hS.loadV 0 rfl hv67 (hc69 0 _ rfl))) fun hO => am 4 (.int .i64 n40) rfl (by kernel_rfl) hO <| am 5 (vx0) rfl (by kernel_rfl) hO <| am 6 (.int .i64 n14) rfl (by kernel_rfl) hO ?_
     obtain ⟨y71, h72, H⟩ := obx H
     refine AQ.pureE 7 rfl (by kernel_rfl) (by kernel_rfl) (by kernel_rfl) rfl hO (e_ia (r := (tSlice tBool)) tsl145 rfl rfl hx0 rfl h72) ?_
     rintro _ ⟨b73, o74, cs75, rfl, hr76, hc77⟩
     obtain ⟨y71v, rfl, y71h⟩ := hr76
     refine ak (Stab J31 []) 8 rfl (by kernel_rfl) hO (Stab.nil S hR70) (fun w hS => x_ld tsc140 rfl (hS.cell _ _ _ (hc77 0 _ rfl))) fun hO => am 9 (.int .i64 n40) rfl (by kernel_rfl) hO ?_
     obtain ⟨y78, h79, H⟩ := obx H
     refine AQ.pureE 10 rfl (by kernel_rfl) (by kernel_rfl) (by kernel_rfl) rfl hO (e_ia (r := tBool) tsl140 rfl rfl y71h rfl h79) ?_
     rintro _ ⟨b80, o81, cs82, rfl, hr83, hc84⟩
     obtain rfl := hr83
     refine ak (Stab J31 []) 11 rfl (by kernel_rfl) hO (Stab.nil S hR70) (fun w hS => x_ld tsc4 rfl (hS.cell _ _ _ (hc84 0 _ rfl))) fun hO => am 12 (.bool y78) rfl (by kernel_rfl) hO ?_
     by_cases cc85 : y78 = true
     ·rw [if_pos cc85] at H
      refine AQ.skip 13 rfl (by kernel_rfl) (by kernel_rfl) (by kernel_rfl) rfl rfl cc85 hO <| AQ.skip 14 rfl (by kernel_rfl) (by kernel_rfl) (by kernel_rfl) rfl rfl cc85 hO <| AQ.skip 15 rfl (by kernel_rfl) (by kernel_rfl) (by kernel_rfl) rfl rfl cc85 hO <| AQ.skip 16 rfl (by kernel_rfl) (by kernel_rfl) (by kernel_rfl) rfl rfl cc85 hO <| AQ.skip 17 rfl (by kernel_rfl) (by kernel_rfl) (by kernel_rfl) rfl rfl cc85 hO <| AQ.skip 18 rfl (by kernel_rfl) (by kernel_rfl) (by kernel_rfl) rfl rfl cc85 hO <| AQ.skip 19 rfl (by kernel_rfl) (by kernel_rfl) (by kernel_rfl) rfl rfl cc85 hO <| ap 20 rfl (by kernel_rfl) hO (fun w => x_pickTV (v := .bool true) rfl cc85 rfl) ?_
      obtain ⟨y86, h87, H⟩ := obx H
      refine AQ.pureE 21 rfl (by kernel_rfl) (by kernel_rfl) (by kernel_rfl) rfl hO (e_iaVD (r := tBool) tsl140 rfl rfl S 0 rfl h63 rfl h87) ?_
      rintro _ ⟨b88, cs89, cc90, rfl, hv91, hr92, hc93⟩
      obtain rfl := hr92
      refine AQ.one 22 [11, 8, 3] [false, false, false] (by kernel_rfl) rfl (by kernel_rfl) <| g rfl (o_stV (r := tBool) (f := 0) (y' := true) tone4 rfl S 0 rfl hv91 h63 h87 rfl hc93 rfl rfl rfl rfl rfl fun w a94 S h95 => andI Hold.nil fun hO => AQ.done (by kernel_rfl) ?_)
      obtain ⟨S, h96⟩ := mx_back S hp62 h38 h95
      refine FW.anew [(0, vx0), (1, vx1), (5, v33), (6, .int .i64 n14), (7, .int .i64 n40)] ⟨rfl, rfl, rfl, rfl, rfl, trivial⟩ fun σ => rg <| mv (.int .i64 n40) rfl <| u rfl (x_bin rfl rfl rfl) <| mv (.int .i64 (i64 (n40 + 1))) rfl ⟨q41, Nat.le_refl _, (l32.set (n14 : Int).toNat (y57.set n40.toNat true)), (i64 (n40 + 1)), v33, a34, u35, (p36.set (n14 : Int).toNat (v59, a94)), J31, H, (Nat.le_of_succ_le hq55), ⟨rfl, rfl, rfl, rfl, rfl, trivial⟩, hL42, (S.sel 2 [1, 0] rfl), h37, h96⟩
     rw [if_neg cc85] at H
     refine AQ.pure 13 rfl (by kernel_rfl) (by kernel_rfl) (by kernel_rfl) (gT rfl rfl (vaF cc85)) hO (fun w => x_movV (v := vx1) rfl) <| AQ.pure 14 rfl (by kernel_rfl) (by kernel_rfl) (by kernel_rfl) (gT rfl rfl (vaF cc85)) hO (fun w => x_movV (v := .int .i64 n14) rfl) ?_
     obtain ⟨y97, h98, H⟩ := obx H
     refine AQ.pureE 15 rfl (by kernel_rfl) (by kernel_rfl) (by kernel_rfl) (gT rfl rfl (vaF cc85)) hO (e_ia (r := (tSlice tBool)) tsl145 rfl rfl hx1 rfl h98) ?_
     rintro _ ⟨b99, o100, cs101, rfl, hr102, hc103⟩
     obtain ⟨y97v, rfl, y97h⟩ := hr102
     refine AQ.take (S := Stab J31 []) 16 rfl (by kernel_rfl) (by kernel_rfl) (by kernel_rfl) (gT rfl rfl (vaF cc85)) hO (Stab.nil S hR70) (fun w hS => x_ld tsc140 rfl (hS.cell _ _ _ (hc103 0 _ rfl))) fun hO => AQ.pure 17 rfl (by kernel_rfl) (by kernel_rfl) (by kernel_rfl) (gT rfl rfl (vaF cc85)) hO (fun w => x_movV (v := .int .i64 n40) rfl) ?_
     obtain ⟨y104, h105, H⟩ := obx H
     refine AQ.pureE 18 rfl (by kernel_rfl) (by kernel_rfl) (by kernel_rfl) (gT rfl rfl (vaF cc85)) hO (e_ia (r := tBool) tsl140 rfl rfl y97h rfl h105) ?_
     rintro _ ⟨b106, o107, cs108, rfl, hr109, hc110⟩
     obtain rfl := hr109
     refine AQ.take (S := Stab J31 []) 19 rfl (by kernel_rfl) (by kernel_rfl) (by kernel_rfl) (gT rfl rfl (vaF cc85)) hO (Stab.nil S hR70) (fun w hS => x_ld tsc4 rfl (hS.cell _ _ _ (hc110 0 _ rfl))) fun hO => ap 20 rfl (by kernel_rfl) hO (fun w => x_pickFV (v := .bool y104) rfl (vaF cc85) rfl) ?_
     obtain ⟨y111, h112, H⟩ := obx H
     refine AQ.pureE 21 rfl (by kernel_rfl) (by kernel_rfl) (by kernel_rfl) rfl hO (e_iaVD (r := tBool) tsl140 rfl rfl S 0 rfl h63 rfl h112) ?_
     rintro _ ⟨b113, cs114, cc115, rfl, hv116, hr117, hc118⟩
     obtain rfl := hr117
     refine AQ.one 22 [19, 16, 11, 8, 3] [false, false, false, false, false] (by kernel_rfl) rfl (by kernel_rfl) <| g rfl (o_stV (r := tBool) (f := 0) (y' := y104) tone4 rfl S 0 rfl hv116 h63 h112 rfl hc118 rfl rfl rfl rfl rfl fun w a119 S h120 => andI Hold.nil fun hO => AQ.done (by kernel_rfl) ?_)
     obtain ⟨S, h121⟩ := mx_back S hp62 h38 h120
     refine FW.anew [(0, vx0), (1, vx1), (5, v33), (6, .int .i64 n14), (7, .int .i64 n40)] ⟨rfl, rfl, rfl, rfl, rfl, trivial⟩ fun σ => rg <| mv (.int .i64 n40) rfl <| u rfl (x_bin rfl rfl rfl) <| mv (.int .i64 (i64 (n40 + 1))) rfl ⟨q41, Nat.le_refl _, (l32.set (n14 : Int).toNat (y57.set n40.toNat y104)), (i64 (n40 + 1)), v33, a34, u35, (p36.set (n14 : Int).toNat (v59, a119)), J31, H, (Nat.le_of_succ_le hq55), ⟨rfl, rfl, rfl, rfl, rfl, trivial⟩, hL42, (S.sel 2 [1, 0] rfl), h37, h121⟩
    rw [if_neg cc56] at H
    refine cF rfl (deF cc56) <| ex ⟨l32, v33, a34, u35, p36, J31, (si H), ⟨rfl, rfl, rfl, rfl, trivial⟩, hL42, S, h37, h38⟩
   rintro σ w ⟨l47, v48, a49, u50, p51, J46, ho, hσ, hL42, S, h52, h53⟩
   subst ho
   have H := HO44
   have hL16 := hL16.trans hL42
   rw [hσ.eq]
   refine rg <| mv (.int .i64 n14) rfl <| u rfl (x_bin rfl rfl rfl) <| mv (.int .i64 (i64 (n14 + 1))) rfl ⟨q15, Nat.le_refl _, l47, (i64 (n14 + 1)), v48, a49, u50, p51, J46, H, (Nat.le_of_succ_le hq29), ⟨rfl, rfl, rfl, rfl, trivial⟩, hL16, S, h52, h53⟩
  rw [if_neg cc30] at H
  refine cF rfl (deF cc30) <| ex ⟨l6, v7, a8, u9, p10, J5, (si H), ⟨rfl, trivial⟩, hL16, S, h11, h12⟩
 rintro σ w ⟨l21, v22, a23, u24, p25, J20, ho, hσ, hL16, S, h26, h27⟩
 subst ho
 have H := HO18
 have hI := hI.trans hL16
 rw [hσ.eq]
 refine sr <| mv v22 rfl <| mv v22 rfl <| rt ?_
 obtain rfl := si H
 exact ⟨_, ⟨_, rfl, rfl⟩, ⟨v22, a23, u24, p25, J20, hI, rfl, h26, h27, S⟩⟩
def r11_Node_in.l0 : Nat → T_r11_Node → Int → Int → Option (Sum Bool Unit)
  | 0, _, _, _ => none
  | k + 1, x0, x1, n3 => (if n3 < (x0.From.length : Int) then ((lat x0.From n3).bind fun y12 => (if x1 ≥ y12 then ((lat x0.To n3).bind fun y20 => (if x1 ≤ y20 then (some (.inl (!x0.Not))) else (r11_Node_in.l0 k x0 x1 (i64 (n3 + 1))))) else (r11_Node_in.l0 k x0 x1 (i64 (n3 + 1))))) else (some (.inr ())))
def r11_Node_in.f (k : Nat) (x0 : T_r11_Node) (x1 : Int) : Option Bool := (((r11_Node_in.l0 k x0 x1 0) : Option (Sum Bool Unit)).bind fun o => match o with | .inl r => some r | .inr _ => (some x0.Not))
abbrev r11_Node_in.C (k : Nat) : Prop := ∀ {x0 : T_r11_Node} {x1 : Int} {x0v1 : Value} {x0v2 : Value} {x0v3 : Value} {F : List It} {I : IMem} {w : World} {r : Bool}, Glob I → Own I w (F) → SlR (tInt' .i64) I x0v1 x0.Kids → SlR (tInt' .i64) I x0v2 x0.From → SlR (tInt' .i64) I x0v3 x0.To → r11_Node_in.f k x0 x1 = some r →
    Calls Tryz.prog 128 #[.agg #[.int .u8 x0.Kind, x0v1, x0v2, x0v3, .bool x0.Not, .bool x0.Num], .int .i64 x1] w fun e w' => ∃ v, e = .returned v ∧ v = .bool r ∧ Own I w' (F)
theorem r11_Node_in.ok (k : Nat) : r11_Node_in.C k := by
 intro x0 x1 x0v1 x0v2 x0v3 F I w r hG S x0h1 x0h2 x0h3 H
 have hI := ilr I
 rw [r11_Node_in.f] at H
 refine Calls.ofFW (args := [.agg #[.int .u8 x0.Kind, x0v1, x0v2, x0v3, .bool x0.Not, .bool x0.Num], .int .i64 x1]) Tryz.func128 rfl rfl <| sr <| g rfl (o_boxA rfl S fun b1 w S => mv (.bool false) rfl (sq (sq (rg (mv (.int .i64 0) rfl (bk ?_))))))
 obtain ⟨o6, hl8, HO7⟩ := obx H
 refine FW.cutX 0 (fun σ w => ∃ (J9 : IMem), (.inr ()) = o6 ∧ Has σ [(2, pt b1)] ∧ I.le J9 ∧ Own J9 w (.bk b1 163 [.int .u8 x0.Kind, x0v1, x0v2, x0v3, .bool x0.Not, .bool x0.Num] :: F)) ?_ ?_
 ·refine FW.loop k (FL.ind (fun q σ w => ∃ (n3 : Int) (J2 : IMem), r11_Node_in.l0 q x0 x1 n3 = some o6 ∧ q ≤ k ∧ Has σ [(1, .int .i64 x1), (2, pt b1), (5, .int .i64 n3)] ∧ I.le J2 ∧ Own J2 w (.bk b1 163 [.int .u8 x0.Kind, x0v1, x0v2, x0v3, .bool x0.Not, .bool x0.Num] :: F)) ?_ ?_ k k _ _ (Nat.le_refl _) ⟨0, I, hl8, Nat.le_refl _, ⟨rfl, rfl, rfl, trivial⟩, (ilr _), S⟩)
  ·rintro σ w ⟨n3, J2, H, _⟩; cases H
  rintro q4 σ w ⟨n3, J2, H, hq10, hσ, hL5, S⟩
  have x0h2 := x0h2.mono hL5
  have x0h3 := x0h3.mono hL5
  have hI := hI.trans hL5
  rw [hσ.eq]
  rw [r11_Node_in.l0] at H
  refine sq <| sr <| mv (.int .i64 n3) rfl <| u rfl (x_fa tf163_2 rfl) <| u rfl (x_ld tsc161 rfl (S.load 0 rfl 2 rfl)) <| u rfl (x_lenD (r := (tInt' .i64)) tsl161 x0h2) <| u rfl (x_bin rfl rfl rfl) ?_
  by_cases cc11 : n3 < (x0.From.length : Int)
  ·rw [if_pos cc11] at H
   refine cT rfl (deT cc11) <| sk <| sq <| bk <| sr <| mv (.int .i64 x1) rfl <| u rfl (x_fa tf163_2 rfl) <| u rfl (x_ld tsc161 rfl (S.load 0 rfl 2 rfl)) <| mv (.int .i64 n3) rfl ?_
   obtain ⟨y12, h13, H⟩ := obx H
   refine g rfl (o_ia (r := (tInt' .i64)) tsl161 rfl rfl x0h2 rfl h13 fun b14 o15 cs16 hr17 hc18 => ?_)
   obtain rfl := hr17
   refine u rfl (x_ld tsc3 rfl (S.cell _ _ _ (hc18 0 _ rfl))) <| u rfl (x_bin rfl rfl rfl) <| mv (.bool (decide (x1 ≥ y12))) rfl ?_
   by_cases cc19 : x1 ≥ y12
   ·rw [if_pos cc19] at H
    refine gu rfl rfl rfl (deT cc19) (x_movV (v := .int .i64 x1) rfl) <| gu rfl rfl rfl (deT cc19) (x_fa tf163_3 rfl) <| gu rfl rfl rfl (deT cc19) (x_ld tsc161 rfl (S.load 0 rfl 3 rfl)) <| gu rfl rfl rfl (deT cc19) (x_movV (v := .int .i64 n3) rfl) ?_
    obtain ⟨y20, h21, H⟩ := obx H
    refine OK.gt rfl rfl rfl (deT cc19) (o_ia (r := (tInt' .i64)) tsl161 rfl rfl x0h3 rfl h21 fun b22 o23 cs24 hr25 hc26 => ?_)
    obtain rfl := hr25
    refine gu rfl rfl rfl (deT cc19) (x_ld tsc3 rfl (S.cell _ _ _ (hc26 0 _ rfl))) <| gu rfl rfl rfl (deT cc19) (x_bin rfl rfl rfl) <| u rfl (x_pickTV (v := .bool (decide (x1 ≤ y20))) rfl (deT cc19) rfl) ?_
    by_cases cc27 : x1 ≤ y20
    ·rw [if_pos cc27] at H
     refine cT rfl (deT cc27) <| sq <| FW.anew [(2, pt b1)] ⟨rfl, trivial⟩ fun σ => rg <| u rfl (x_fa tf163_4 rfl) <| u rfl (x_ld tsc4 rfl (S.load 0 rfl 4 rfl)) <| u rfl (x_not' rfl) <| mv (.bool (!x0.Not)) rfl <| rt ?_
     obtain rfl := si H
     obtain rfl := si HO7
     exact ⟨_, ⟨_, rfl, rfl⟩, ⟨rfl, ((S.sel 1 [] rfl).weaken hI)⟩⟩
    rw [if_neg cc27] at H
    refine cF rfl (deF cc27) <| sk <| FW.anew [(1, .int .i64 x1), (2, pt b1), (5, .int .i64 n3)] ⟨rfl, rfl, rfl, trivial⟩ fun σ => rg <| mv (.int .i64 n3) rfl <| u rfl (x_bin rfl rfl rfl) <| mv (.int .i64 (i64 (n3 + 1))) rfl ⟨q4, Nat.le_refl _, (i64 (n3 + 1)), J2, H, (Nat.le_of_succ_le hq10), ⟨rfl, rfl, rfl, trivial⟩, hL5, S⟩
   rw [if_neg cc19] at H
   refine gn rfl rfl rfl (deF cc19) <| gn rfl rfl rfl (deF cc19) <| gn rfl rfl rfl (deF cc19) <| gn rfl rfl rfl (deF cc19) <| gn rfl rfl rfl (deF cc19) <| gn rfl rfl rfl (deF cc19) <| gn rfl rfl rfl (deF cc19) <| u rfl (x_pickFV (v := .bool false) rfl (deF cc19) rfl) <| cF rfl rfl <| sk <| FW.anew [(1, .int .i64 x1), (2, pt b1), (5, .int .i64 n3)] ⟨rfl, rfl, rfl, trivial⟩ fun σ => rg <| mv (.int .i64 n3) rfl <| u rfl (x_bin rfl rfl rfl) <| mv (.int .i64 (i64 (n3 + 1))) rfl ⟨q4, Nat.le_refl _, (i64 (n3 + 1)), J2, H, (Nat.le_of_succ_le hq10), ⟨rfl, rfl, rfl, trivial⟩, hL5, S⟩
  rw [if_neg cc11] at H
  refine cF rfl (deF cc11) <| ex ⟨J2, (si H), ⟨rfl, trivial⟩, hL5, S⟩
 rintro σ w ⟨J9, ho, hσ, hL5, S⟩
 subst ho
 have H := HO7
 try dsimp only at H
 have hI := hI.trans hL5
 rw [hσ.eq]
 refine sr <| u rfl (x_fa tf163_4 rfl) <| u rfl (x_ld tsc4 rfl (S.load 0 rfl 4 rfl)) <| mv (.bool x0.Not) rfl <| rt ?_
 obtain rfl := si H
 exact ⟨_, ⟨_, rfl, rfl⟩, ⟨rfl, ((S.sel 1 [] rfl).weaken hI)⟩⟩
end Go.Proofs.YtafnenafbognkaaGreatDoor
namespace Go.Proofs.YtafnenafbognkaaGreatDoor
open Sp
set_option maxRecDepth 100000
set_option maxHeartbeats 4000000
def r11_often.l2 : Nat → (List (List Bool)) → Int → Int → (List (List Bool)) → Int → Option (List (List Bool))
  | 0, _, _, _, _, _ => none
  | k + 1, x0, n14, n40, l58, n66 => (if n66 < (x0.length : Int) then ((lat l58 n14).bind fun y83 => ((lat y83 n40).bind fun y96 => (if y96 = true then ((lat l58 n14).bind fun y105 => ((lat y105 n66).bind fun y125 => (if y125 = true then ((lat y105 n66).bind fun y134 => (r11_often.l2 k x0 n14 n40 (l58.set (n14 : Int).toNat (y105.set n66.toNat true)) (i64 (n66 + 1)))) else ((lat x0 n40).bind fun y145 => ((lat y145 n66).bind fun y152 => ((lat y105 n66).bind fun y159 => (r11_often.l2 k x0 n14 n40 (l58.set (n14 : Int).toNat (y105.set n66.toNat y152)) (i64 (n66 + 1))))))))) else (some l58)))) else (some l58))
def r11_often.l1 : Nat → (List (List Bool)) → Int → (List (List Bool)) → Int → Option (List (List Bool))
  | 0, _, _, _, _ => none
  | k + 1, x0, n14, l32, n40 => (if n40 < (x0.length : Int) then ((r11_often.l2 k x0 n14 n40 l32 n40).bind fun l73 => (r11_often.l1 k x0 n14 l73 (i64 (n40 + 1)))) else (some l32))
def r11_often.l0 : Nat → (List (List Bool)) → (List (List Bool)) → Int → Option (List (List Bool))
  | 0, _, _, _ => none
  | k + 1, x0, l6, n14 => (if n14 < (x0.length : Int) then ((r11_often.l1 k x0 n14 l6 n14).bind fun l47 => (r11_often.l0 k x0 l47 (i64 (n14 + 1)))) else (some l6))
def r11_often.f (k : Nat) (x0 : (List (List Bool))) : Option (List (List Bool)) := ((r11_still.f k (i64 ((x0.length : Int) - 1)) true).bind fun y1 => ((r11_often.l0 k x0 y1 0).bind fun l21 => (some l21)))
abbrev r11_often.C (k : Nat) : Prop := ∀ {x0 : (List (List Bool))} {vx0 : Value} {F : List It} {I : IMem} {w : World} {r : (List (List Bool))}, Glob I → Own I w (F) → SlR (tSlice tBool) I vx0 x0 → r11_often.f k x0 = some r →
    Calls Tryz.prog 129 #[vx0] w fun e w' => ∃ v, e = .returned v ∧ ∃ (vy_0 : Value) (cy_0 : List Value) (uy_0 : List Value) (py_0 : List (Value × List Value)) (J : IMem), I.le J ∧ v = vy_0 ∧ Flat tRaw J cy_0 uy_0 ∧ MxR tBool J uy_0 py_0 r ∧ Own J w' (.av vy_0 140 1 cy_0 :: .fam 4 1 py_0 :: F)
theorem r11_often.ok (k : Nat) : r11_often.C k := by
 intro x0 vx0 F I w r hG S hx0 H
 have hI := ilr I
 rw [r11_often.f] at H
 refine Calls.ofFW (args := [vx0]) Tryz.func129 rfl rfl <| sr <| mv ((.slice none 0 0)) rfl <| sr <| mv vx0 rfl <| u rfl (x_lenD (r := (tSlice tBool)) tsl145 hx0) <| u rfl (x_bin rfl rfl rfl) ?_
 obtain ⟨y1, hy2, H⟩ := obx H
 refine g rfl (cl fb125 (@r11_still.ok k (i64 ((x0.length : Int) - 1)) true _ _ _ _ hG S hy2) rfl ?_)
 rintro vy1_0 w ⟨vy1_0q, cy1_0, uy1_0, py1_0, J3, hJ4, rfl, hy1_0, my1_0, S⟩
 have hx0 := hx0.mono hJ4
 have hI := hI.trans hJ4
 refine mv vy1_0 rfl <| sq <| sr <| mv (.int .i64 0) rfl <| bk ?_
 obtain ⟨o17, hl19, HO18⟩ := obx H
 refine FW.cutX 0 (fun σ w => ∃ (l21 : (List (List Bool))) (v22 : Value) (a23 : List Value) (u24 : List Value) (p25 : List (Value × List Value)) (J20 : IMem), l21 = o17 ∧ Has σ [(3, v22)] ∧ J3.le J20 ∧ Own J20 w (.av v22 140 1 a23 :: .fam 4 1 p25 :: F) ∧ Flat tRaw J20 a23 u24 ∧ MxR tBool J20 u24 p25 l21) ?_ ?_
 ·refine FW.loop k (FL.ind (fun q σ w => ∃ (l6 : (List (List Bool))) (n14 : Int) (v7 : Value) (a8 : List Value) (u9 : List Value) (p10 : List (Value × List Value)) (J5 : IMem), r11_often.l0 q x0 l6 n14 = some o17 ∧ q ≤ k ∧ Has σ [(0, vx0), (3, v7), (4, .int .i64 n14)] ∧ J3.le J5 ∧ Own J5 w (.av v7 140 1 a8 :: .fam 4 1 p10 :: F) ∧ Flat tRaw J5 a8 u9 ∧ MxR tBool J5 u9 p10 l6) ?_ ?_ k k _ _ (Nat.le_refl _) ⟨y1, 0, vy1_0, cy1_0, uy1_0, py1_0, J3, hl19, Nat.le_refl _, ⟨rfl, rfl, rfl, trivial⟩, (ilr _), S, hy1_0, my1_0⟩)
  ·rintro σ w ⟨l6, n14, v7, a8, u9, p10, J5, H, _⟩; cases H
  rintro q15 σ w ⟨l6, n14, v7, a8, u9, p10, J5, H, hq29, hσ, hL16, S, h11, h12⟩
  have hx0 := hx0.mono hL16
  rw [hσ.eq]
  rw [r11_often.l0] at H
  refine sq <| sr <| mv (.int .i64 n14) rfl <| mv vx0 rfl <| u rfl (x_lenD (r := (tSlice tBool)) tsl145 hx0) <| u rfl (x_bin rfl rfl rfl) ?_
  by_cases cc30 : n14 < (x0.length : Int)
  ·rw [if_pos cc30] at H
   refine cT rfl (deT cc30) <| sk <| sq <| bk <| sr <| mv (.int .i64 n14) rfl <| mv (.int .i64 n14) rfl <| bk ?_
   obtain ⟨o43, hl45, HO44⟩ := obx H
   refine FW.cutX 2 (fun σ w => ∃ (l47 : (List (List Bool))) (v48 : Value) (a49 : List Value) (u50 : List Value) (p51 : List (Value × List Value)) (J46 : IMem), l47 = o43 ∧ Has σ [(0, vx0), (3, v48), (4, .int .i64 n14)] ∧ J5.le J46 ∧ Own J46 w (.av v48 140 1 a49 :: .fam 4 1 p51 :: F) ∧ Flat tRaw J46 a49 u50 ∧ MxR tBool J46 u50 p51 l47) ?_ ?_
   ·refine FW.loop q15 (FL.ind (fun q σ w => ∃ (l32 : (List (List Bool))) (n40 : Int) (v33 : Value) (a34 : List Value) (u35 : List Value) (p36 : List (Value × List Value)) (J31 : IMem), r11_often.l1 q x0 n14 l32 n40 = some o43 ∧ q ≤ q15 ∧ Has σ [(0, vx0), (3, v33), (4, .int .i64 n14), (5, .int .i64 n40)] ∧ J5.le J31 ∧ Own J31 w (.av v33 140 1 a34 :: .fam 4 1 p36 :: F) ∧ Flat tRaw J31 a34 u35 ∧ MxR tBool J31 u35 p36 l32) ?_ ?_ q15 q15 _ _ (Nat.le_refl _) ⟨l6, n14, v7, a8, u9, p10, J5, hl45, Nat.le_refl _, ⟨rfl, rfl, rfl, rfl, trivial⟩, (ilr _), S, h11, h12⟩)
    ·rintro σ w ⟨l32, n40, v33, a34, u35, p36, J31, H, _⟩; cases H
    rintro q41 σ w ⟨l32, n40, v33, a34, u35, p36, J31, H, hq55, hσ, hL42, S, h37, h38⟩
    have hx0 := hx0.mono hL42
    rw [hσ.eq]
    rw [r11_often.l1] at H
    refine sq <| sr <| mv (.int .i64 n40) rfl <| mv vx0 rfl <| u rfl (x_lenD (r := (tSlice tBool)) tsl145 hx0) <| u rfl (x_bin rfl rfl rfl) ?_
    by_cases cc56 : n40 < (x0.length : Int)
    ·rw [if_pos cc56] at H
     refine cT rfl (deT cc56) <| sk <| sq <| bk <| sr <| mv (.int .i64 n40) rfl <| mv (.int .i64 n40) rfl <| bk ?_
     obtain ⟨o69, hl71, HO70⟩ := obx H
     refine FW.cutX 4 (fun σ w => ∃ (l73 : (List (List Bool))) (v74 : Value) (a75 : List Value) (u76 : List Value) (p77 : List (Value × List Value)) (J72 : IMem), l73 = o69 ∧ Has σ [(0, vx0), (3, v74), (4, .int .i64 n14), (5, .int .i64 n40)] ∧ J31.le J72 ∧ Own J72 w (.av v74 140 1 a75 :: .fam 4 1 p77 :: F) ∧ Flat tRaw J72 a75 u76 ∧ MxR tBool J72 u76 p77 l73) ?_ ?_
     ·refine FW.loop q41 (FL.ind (fun q σ w => ∃ (l58 : (List (List Bool))) (n66 : Int) (v59 : Value) (a60 : List Value) (u61 : List Value) (p62 : List (Value × List Value)) (J57 : IMem), r11_often.l2 q x0 n14 n40 l58 n66 = some o69 ∧ q ≤ q41 ∧ Has σ [(0, vx0), (3, v59), (4, .int .i64 n14), (5, .int .i64 n40), (6, .int .i64 n66)] ∧ J31.le J57 ∧ Own J57 w (.av v59 140 1 a60 :: .fam 4 1 p62 :: F) ∧ Flat tRaw J57 a60 u61 ∧ MxR tBool J57 u61 p62 l58) ?_ ?_ q41 q41 _ _ (Nat.le_refl _) ⟨l32, n40, v33, a34, u35, p36, J31, hl71, Nat.le_refl _, ⟨rfl, rfl, rfl, rfl, rfl, trivial⟩, (ilr _), S, h37, h38⟩)
      ·rintro σ w ⟨l58, n66, v59, a60, u61, p62, J57, H, _⟩; cases H
      rintro q67 σ w ⟨l58, n66, v59, a60, u61, p62, J57, H, hq81, hσ, hL68, S, h63, h64⟩
      have hx0 := hx0.mono hL68
      rw [hσ.eq]
      rw [r11_often.l2] at H
      refine sq <| sr <| mv (.int .i64 n66) rfl <| mv vx0 rfl <| u rfl (x_lenD (r := (tSlice tBool)) tsl145 hx0) <| u rfl (x_bin rfl rfl rfl) <| mv (.bool (decide (n66 < (x0.length : Int)))) rfl ?_
      by_cases cc82 : n66 < (x0.length : Int)
      ·rw [if_pos cc82] at H
       refine gu rfl rfl rfl (deT cc82) (x_movV (v := v59) rfl) <| gu rfl rfl rfl (deT cc82) (x_movV (v := .int .i64 n14) rfl) ?_
       obtain ⟨y83, h84, H⟩ := obx H
       have S : Own J57 _ (.fam 4 1 p62 :: .av v59 140 1 a60 :: F) := (S.sel 2 [1, 0] rfl)
       obtain ⟨v85, a86, hl87, hp88, h89, S⟩ := mx_at S h64 h84
       refine OK.gt rfl rfl rfl (deT cc82) (o_iaV (r := tRaw) tsl145 rfl rfl S 2 rfl h63 rfl hl87 fun b90 cs91 cc92 hv93 hr94 hc95 => ?_)
       obtain ⟨rfl, _⟩ := hr94
       refine gu rfl rfl rfl (deT cc82) (x_ld tsc140 rfl (S.loadV 2 rfl hv93 (hc95 0 _ rfl))) <| gu rfl rfl rfl (deT cc82) (x_movV (v := .int .i64 n40) rfl) ?_
       obtain ⟨y96, h97, H⟩ := obx H
       refine OK.gt rfl rfl rfl (deT cc82) (o_iaV (r := tBool) tsl140 rfl rfl S 0 rfl h89 rfl h97 fun b98 cs99 cc100 hv101 hr102 hc103 => ?_)
       obtain rfl := hr102
       refine gu rfl rfl rfl (deT cc82) (x_ld tsc4 rfl (S.loadV 0 rfl hv101 (hc103 0 _ rfl))) <| u rfl (x_pickTV (v := .bool y96) rfl (deT cc82) rfl) ?_
       have S := mx_back0 S hp88
       by_cases cc104 : y96 = true
       ·rw [if_pos cc104] at H
        refine cT rfl cc104 <| sk <| sq <| bk <| FW.anew [(0, vx0), (3, v59), (4, .int .i64 n14), (5, .int .i64 n40), (6, .int .i64 n66)] ⟨rfl, rfl, rfl, rfl, rfl, trivial⟩ fun σ => ?_
        have S := S.drew
        refine FW.regionD mixed ?_
        have hO := Hold.nil (w := { w with drawn := w.drawn + 1 })
        refine am 0 (v59) rfl (by kernel_rfl) hO <| am 1 (.int .i64 n14) rfl (by kernel_rfl) hO ?_
        obtain ⟨y105, h106, H⟩ := obx H
        obtain ⟨v107, a108, hl109, hp110, h111, S⟩ := mx_at S h64 h106
        refine AQ.pureE 2 rfl (by kernel_rfl) (by kernel_rfl) (by kernel_rfl) rfl hO (e_iaVD (r := tRaw) tsl145 rfl rfl S 2 rfl h63 rfl hl109) ?_
        rintro _ ⟨b112, cs113, cc114, rfl, hv115, hr116, hc117⟩
        obtain ⟨rfl, _⟩ := hr116
        have hR118 := ilr J57
        refine ak (Stab J57 [.av v59 140 1 a60]) 3 rfl (by kernel_rfl) hO (Stab.of S 2 rfl hR118) (fun w hS => x_ld tsc140 rfl (hS.loadV 0 rfl hv115 (hc117 0 _ rfl))) fun hO => am 4 (.int .i64 n66) rfl (by kernel_rfl) hO <| am 5 (v59) rfl (by kernel_rfl) hO <| am 6 (.int .i64 n14) rfl (by kernel_rfl) hO <| AQ.pureE 7 rfl (by kernel_rfl) (by kernel_rfl) (by kernel_rfl) rfl hO (e_iaVD (r := tRaw) tsl145 rfl rfl S 2 rfl h63 rfl hl109) ?_
        rintro _ ⟨b119, cs120, cc121, rfl, hv122, hr123, hc124⟩
        obtain ⟨rfl, _⟩ := hr123
        refine ak (Stab J57 [.av v59 140 1 a60]) 8 rfl (by kernel_rfl) hO (Stab.of S 2 rfl hR118) (fun w hS => x_ld tsc140 rfl (hS.loadV 0 rfl hv122 (hc124 0 _ rfl))) fun hO => am 9 (.int .i64 n66) rfl (by kernel_rfl) hO ?_
        obtain ⟨y125, h126, H⟩ := obx H
        refine AQ.pureE 10 rfl (by kernel_rfl) (by kernel_rfl) (by kernel_rfl) rfl hO (e_iaVD (r := tBool) tsl140 rfl rfl S 0 rfl h111 rfl h126) ?_
        rintro _ ⟨b127, cs128, cc129, rfl, hv130, hr131, hc132⟩
        obtain rfl := hr131
        refine ak (Stab J57 [.av v107 4 1 a108]) 11 rfl (by kernel_rfl) hO (Stab.of S 0 rfl hR118) (fun w hS => x_ld tsc4 rfl (hS.loadV 0 rfl hv130 (hc132 0 _ rfl))) fun hO => am 12 (.bool y125) rfl (by kernel_rfl) hO ?_
        by_cases cc133 : y125 = true
        ·rw [if_pos cc133] at H
         refine AQ.skip 13 rfl (by kernel_rfl) (by kernel_rfl) (by kernel_rfl) rfl rfl cc133 hO <| AQ.skip 14 rfl (by kernel_rfl) (by kernel_rfl) (by kernel_rfl) rfl rfl cc133 hO <| AQ.skip 15 rfl (by kernel_rfl) (by kernel_rfl) (by kernel_rfl) rfl rfl cc133 hO <| AQ.skip 16 rfl (by kernel_rfl) (by kernel_rfl) (by kernel_rfl) rfl rfl cc133 hO <| AQ.skip 17 rfl (by kernel_rfl) (by kernel_rfl) (by kernel_rfl) rfl rfl cc133 hO <| AQ.skip 18 rfl (by kernel_rfl) (by kernel_rfl) (by kernel_rfl) rfl rfl cc133 hO <| AQ.skip 19 rfl (by kernel_rfl) (by kernel_rfl) (by kernel_rfl) rfl rfl cc133 hO <| ap 20 rfl (by kernel_rfl) hO (fun w => x_pickTV (v := .bool true) rfl cc133 rfl) ?_
         obtain ⟨y134, h135, H⟩ := obx H
         refine AQ.pureE 21 rfl (by kernel_rfl) (by kernel_rfl) (by kernel_rfl) rfl hO (e_iaVD (r := tBool) tsl140 rfl rfl S 0 rfl h111 rfl h135) ?_
         rintro _ ⟨b136, cs137, cc138, rfl, hv139, hr140, hc141⟩
         obtain rfl := hr140
         refine AQ.one 22 [11, 8, 3] [false, false, false] (by kernel_rfl) rfl (by kernel_rfl) <| g rfl (o_stV (r := tBool) (f := 0) (y' := true) tone4 rfl S 0 rfl hv139 h111 h135 rfl hc141 rfl rfl rfl rfl rfl fun w a142 S h143 => andI Hold.nil fun hO => AQ.done (by kernel_rfl) ?_)
         obtain ⟨S, h144⟩ := mx_back S hp110 h64 h143
         refine FW.anew [(0, vx0), (3, v59), (4, .int .i64 n14), (5, .int .i64 n40), (6, .int .i64 n66)] ⟨rfl, rfl, rfl, rfl, rfl, trivial⟩ fun σ => rg <| mv (.int .i64 n66) rfl <| u rfl (x_bin rfl rfl rfl) <| mv (.int .i64 (i64 (n66 + 1))) rfl ⟨q67, Nat.le_refl _, (l58.set (n14 : Int).toNat (y105.set n66.toNat true)), (i64 (n66 + 1)), v59, a60, u61, (p62.set (n14 : Int).toNat (v107, a142)), J57, H, (Nat.le_of_succ_le hq81), ⟨rfl, rfl, rfl, rfl, rfl, trivial⟩, hL68, (S.sel 2 [1, 0] rfl), h63, h144⟩
        rw [if_neg cc133] at H
        refine AQ.pure 13 rfl (by kernel_rfl) (by kernel_rfl) (by kernel_rfl) (gT rfl rfl (vaF cc133)) hO (fun w => x_movV (v := vx0) rfl) <| AQ.pure 14 rfl (by kernel_rfl) (by kernel_rfl) (by kernel_rfl) (gT rfl rfl (vaF cc133)) hO (fun w => x_movV (v := .int .i64 n40) rfl) ?_
        obtain ⟨y145, h146, H⟩ := obx H
        refine AQ.pureE 15 rfl (by kernel_rfl) (by kernel_rfl) (by kernel_rfl) (gT rfl rfl (vaF cc133)) hO (e_ia (r := (tSlice tBool)) tsl145 rfl rfl hx0 rfl h146) ?_
        rintro _ ⟨b147, o148, cs149, rfl, hr150, hc151⟩
        obtain ⟨y145v, rfl, y145h⟩ := hr150
        refine AQ.take (S := Stab J57 []) 16 rfl (by kernel_rfl) (by kernel_rfl) (by kernel_rfl) (gT rfl rfl (vaF cc133)) hO (Stab.nil S hR118) (fun w hS => x_ld tsc140 rfl (hS.cell _ _ _ (hc151 0 _ rfl))) fun hO => AQ.pure 17 rfl (by kernel_rfl) (by kernel_rfl) (by kernel_rfl) (gT rfl rfl (vaF cc133)) hO (fun w => x_movV (v := .int .i64 n66) rfl) ?_
        obtain ⟨y152, h153, H⟩ := obx H
        refine AQ.pureE 18 rfl (by kernel_rfl) (by kernel_rfl) (by kernel_rfl) (gT rfl rfl (vaF cc133)) hO (e_ia (r := tBool) tsl140 rfl rfl y145h rfl h153) ?_
        rintro _ ⟨b154, o155, cs156, rfl, hr157, hc158⟩
        obtain rfl := hr157
        refine AQ.take (S := Stab J57 []) 19 rfl (by kernel_rfl) (by kernel_rfl) (by kernel_rfl) (gT rfl rfl (vaF cc133)) hO (Stab.nil S hR118) (fun w hS => x_ld tsc4 rfl (hS.cell _ _ _ (hc158 0 _ rfl))) fun hO => ap 20 rfl (by kernel_rfl) hO (fun w => x_pickFV (v := .bool y152) rfl (vaF cc133) rfl) ?_
        obtain ⟨y159, h160, H⟩ := obx H
        refine AQ.pureE 21 rfl (by kernel_rfl) (by kernel_rfl) (by kernel_rfl) rfl hO (e_iaVD (r := tBool) tsl140 rfl rfl S 0 rfl h111 rfl h160) ?_
        rintro _ ⟨b161, cs162, cc163, rfl, hv164, hr165, hc166⟩
        obtain rfl := hr165
        refine AQ.one 22 [19, 16, 11, 8, 3] [false, false, false, false, false] (by kernel_rfl) rfl (by kernel_rfl) <| g rfl (o_stV (r := tBool) (f := 0) (y' := y152) tone4 rfl S 0 rfl hv164 h111 h160 rfl hc166 rfl rfl rfl rfl rfl fun w a167 S h168 => andI Hold.nil fun hO => AQ.done (by kernel_rfl) ?_)
        obtain ⟨S, h169⟩ := mx_back S hp110 h64 h168
        refine FW.anew [(0, vx0), (3, v59), (4, .int .i64 n14), (5, .int .i64 n40), (6, .int .i64 n66)] ⟨rfl, rfl, rfl, rfl, rfl, trivial⟩ fun σ => rg <| mv (.int .i64 n66) rfl <| u rfl (x_bin rfl rfl rfl) <| mv (.int .i64 (i64 (n66 + 1))) rfl ⟨q67, Nat.le_refl _, (l58.set (n14 : Int).toNat (y105.set n66.toNat y152)), (i64 (n66 + 1)), v59, a60, u61, (p62.set (n14 : Int).toNat (v107, a167)), J57, H, (Nat.le_of_succ_le hq81), ⟨rfl, rfl, rfl, rfl, rfl, trivial⟩, hL68, (S.sel 2 [1, 0] rfl), h63, h169⟩
       rw [if_neg cc104] at H
       refine cF rfl (vaF cc104) <| ex ⟨l58, v59, a60, u61, p62, J57, (si H), ⟨rfl, rfl, rfl, rfl, trivial⟩, hL68, (S.sel 2 [1, 0] rfl), h63, h64⟩
      rw [if_neg cc82] at H
      refine gn rfl rfl rfl (deF cc82) <| gn rfl rfl rfl (deF cc82) <| gn rfl rfl rfl (deF cc82) <| gn rfl rfl rfl (deF cc82) <| gn rfl rfl rfl (deF cc82) <| gn rfl rfl rfl (deF cc82) <| gn rfl rfl rfl (deF cc82) <| u rfl (x_pickFV (v := .bool false) rfl (deF cc82) rfl) <| cF rfl rfl <| ex ⟨l58, v59, a60, u61, p62, J57, (si H), ⟨rfl, rfl, rfl, rfl, trivial⟩, hL68, S, h63, h64⟩
     rintro σ w ⟨l73, v74, a75, u76, p77, J72, ho, hσ, hL68, S, h78, h79⟩
     subst ho
     have H := HO70
     have hL42 := hL42.trans hL68
     rw [hσ.eq]
     refine rg <| mv (.int .i64 n40) rfl <| u rfl (x_bin rfl rfl rfl) <| mv (.int .i64 (i64 (n40 + 1))) rfl ⟨q41, Nat.le_refl _, l73, (i64 (n40 + 1)), v74, a75, u76, p77, J72, H, (Nat.le_of_succ_le hq55), ⟨rfl, rfl, rfl, rfl, trivial⟩, hL42, S, h78, h79⟩
    rw [if_neg cc56] at H
    refine cF rfl (deF cc56) <| ex ⟨l32, v33, a34, u35, p36, J31, (si H), ⟨rfl, rfl, rfl, trivial⟩, hL42, S, h37, h38⟩
   rintro σ w ⟨l47, v48, a49, u50, p51, J46, ho, hσ, hL42, S, h52, h53⟩
   subst ho
   have H := HO44
   have hL16 := hL16.trans hL42
   rw [hσ.eq]
   refine rg <| mv (.int .i64 n14) rfl <| u rfl (x_bin rfl rfl rfl) <| mv (.int .i64 (i64 (n14 + 1))) rfl ⟨q15, Nat.le_refl _, l47, (i64 (n14 + 1)), v48, a49, u50, p51, J46, H, (Nat.le_of_succ_le hq29), ⟨rfl, rfl, rfl, trivial⟩, hL16, S, h52, h53⟩
  rw [if_neg cc30] at H
  refine cF rfl (deF cc30) <| ex ⟨l6, v7, a8, u9, p10, J5, (si H), ⟨rfl, trivial⟩, hL16, S, h11, h12⟩
 rintro σ w ⟨l21, v22, a23, u24, p25, J20, ho, hσ, hL16, S, h26, h27⟩
 subst ho
 have H := HO18
 have hI := hI.trans hL16
 rw [hσ.eq]
 refine sr <| mv v22 rfl <| mv v22 rfl <| rt ?_
 obtain rfl := si H
 exact ⟨_, ⟨_, rfl, rfl⟩, ⟨v22, a23, u24, p25, J20, hI, rfl, h26, h27, S⟩⟩
mutual
def r11_P_ends.l0 : Nat → (Option T_r11_P) → (List Int) → T_r11_Node → (List (List Bool)) → Int → Option (List (List Bool))
  | 0, _, _, _, _, _ => none
  | k + 1, x0, x2, y9, l23, n31 => (if n31 < (y9.Kids.length : Int) then ((lat y9.Kids n31).bind fun y48 => ((r11_P_ends.f k x0 y48 x2).bind fun y55 => ((r11_then.f k l23 y55).bind fun y65 => (r11_P_ends.l0 k x0 x2 y9 y65 (i64 (n31 + 1)))))) else (some l23))
def r11_P_ends.l1 : Nat → (Option T_r11_P) → (List Int) → T_r11_Node → (List (List Bool)) → Int → Option (List (List Bool))
  | 0, _, _, _, _, _ => none
  | k + 1, x0, x2, y9, l71, n79 => (if n79 < (y9.Kids.length : Int) then ((lat y9.Kids n79).bind fun y96 => ((r11_P_ends.f k x0 y96 x2).bind fun y103 => ((r11_either.f k l71 y103).bind fun y113 => (r11_P_ends.l1 k x0 x2 y9 y113 (i64 (n79 + 1)))))) else (some l71))
def r11_P_ends.l2 : Nat → (List Int) → T_r11_Node → (List (List Bool)) → Int → Option (List (List Bool))
  | 0, _, _, _, _ => none
  | k + 1, x2, y9, l125, n133 => (if n133 < (x2.length : Int) then ((lat l125 n133).bind fun y150 => (if y9.Kind = 46 then ((lat y150 (i64 (n133 + 1))).bind fun y165 => (r11_P_ends.l2 k x2 y9 (l125.set (n133 : Int).toNat (y150.set (i64 (n133 + 1)).toNat true)) (i64 (n133 + 1)))) else ((lat x2 n133).bind fun y176 => ((r11_Node_in.f k y9 (i64 y176)).bind fun y183 => ((lat y150 (i64 (n133 + 1))).bind fun y185 => (r11_P_ends.l2 k x2 y9 (l125.set (n133 : Int).toNat (y150.set (i64 (n133 + 1)).toNat y183)) (i64 (n133 + 1)))))))) else (some l125))
def r11_P_ends.f : Nat → (Option T_r11_P) → Int → (List Int) → Option (List (List Bool))
  | 0, _, _, _ => none
  | k + 1, x0, x1, x2 => ((x0).bind fun y1 => ((lat y1.N x1).bind fun y9 => ((r11_still.f k (x2.length : Int) (y9.Kind == 114)).bind fun y17 => (if y9.Kind = 114 then ((r11_P_ends.l0 k x0 x2 y9 y17 0).bind fun l38 => (some l38)) else (if y9.Kind = 99 then ((r11_P_ends.l1 k x0 x2 y9 y17 0).bind fun l86 => (some l86)) else ((if y9.Kind = 115 then (some (y9.Kind == 115)) else (some (y9.Kind == 46))).bind fun b118 => (if b118 = true then ((r11_P_ends.l2 k x2 y9 y17 0).bind fun l140 => (some l140)) else (if y9.Kind = 94 then ((lat y17 0).bind fun y197 => ((lat y197 0).bind fun y210 => (some (y17.set (0 : Int).toNat (y197.set (0 : Int).toNat true))))) else (if y9.Kind = 36 then ((lat y17 (x2.length : Int)).bind fun y222 => ((lat y222 (x2.length : Int)).bind fun y235 => (some (y17.set ((x2.length : Int) : Int).toNat (y222.set (x2.length : Int).toNat true))))) else (if y9.Kind = 63 then ((lat y9.Kids 0).bind fun y248 => ((r11_still.f k (x2.length : Int) true).bind fun y255 => ((r11_P_ends.f k x0 y248 x2).bind fun y259 => ((r11_either.f k y255 y259).bind fun y269 => (some y269))))) else (if y9.Kind = 42 then ((lat y9.Kids 0).bind fun y274 => ((r11_P_ends.f k x0 y274 x2).bind fun y281 => ((r11_often.f k y281).bind fun y288 => (some y288)))) else (if y9.Kind = 43 then ((lat y9.Kids 0).bind fun y293 => ((r11_P_ends.f k x0 y293 x2).bind fun y300 => ((r11_often.f k y300).bind fun y307 => ((r11_then.f k y300 y307).bind fun y314 => (some y314))))) else (some y17)))))))))))))
end
abbrev r11_P_ends.C (k : Nat) : Prop := ∀ {x0 : (Option T_r11_P)} {x1 : Int} {x2 : (List Int)} {vx0 : Value} {vx2 : Value} {F : List It} {I : IMem} {w : World} {r : (List (List Bool))}, Glob I → Own I w (F) → PtR R_r11_P I vx0 x0 → SlR (tInt' .u32) I vx2 x2 → r11_P_ends.f k x0 x1 x2 = some r →
    Calls Tryz.prog 98 #[vx0, .int .i64 x1, vx2] w fun e w' => ∃ v, e = .returned v ∧ ∃ (vy_0 : Value) (cy_0 : List Value) (uy_0 : List Value) (py_0 : List (Value × List Value)) (J : IMem), I.le J ∧ v = vy_0 ∧ Flat tRaw J cy_0 uy_0 ∧ MxR tBool J uy_0 py_0 r ∧ Own J w' (.av vy_0 140 1 cy_0 :: .fam 4 1 py_0 :: F)
theorem r11_P_ends.step (k : Nat) (ih_r11_P_ends : ∀ m, m ≤ k → r11_P_ends.C m) : r11_P_ends.C (k + 1) := by
 intro x0 x1 x2 vx0 vx2 F I w r hG S hx0 hx2 H
 have hI := ilr I
 rw [r11_P_ends.f] at H
 refine Calls.ofFW (args := [vx0, .int .i64 x1, vx2]) Tryz.func98 rfl rfl <| sr <| mv ((.slice none 0 0)) rfl <| sr <| mv vx0 rfl ?_
 obtain ⟨y1, hy2, H⟩ := obx H
 obtain ⟨b3, o4, cs5, hv6, hr7, hc8⟩ := hx0.some hy2
 obtain ⟨y1v2, rfl, y1h2⟩ := hr7
 refine u rfl (x_nk hv6) <| u rfl (x_fa tf135_2 rfl) <| u rfl (x_ld tsc133 rfl (S.cell _ _ _ (hc8 2 _ rfl))) <| mv (.int .i64 x1) rfl ?_
 obtain ⟨y9, h10, H⟩ := obx H
 refine g rfl (o_ia (r := R_r11_Node) tsl133 rfl rfl y1h2 rfl h10 fun b11 o12 cs13 hr14 hc15 => ?_)
 obtain ⟨y9v1, y9v2, y9v3, rfl, y9h1, y9h2, y9h3⟩ := hr14
 refine u rfl (x_ldA tag163 rfl (S.loadI hc15) rfl) <| g rfl (o_all tz163 S fun b16 w S => g rfl (o_stA tag163 S 0 rfl rfl rfl rfl (c1 rfl (c1 y9h1.one (c1 y9h2.one (c1 y9h3.one (c1 rfl (c1 rfl c0)))))) rfl fun w S => sq (FW.anew [(0, vx0), (2, vx2), (7, pt b16)] ⟨rfl, rfl, rfl, trivial⟩ fun σ => rg (mv vx2 rfl (u rfl (x_lenD (r := (tInt' .u32)) tsl25 hx2) (mv (.int .i64 (x2.length : Int)) rfl (sq (rg (mv (.int .i64 (x2.length : Int)) rfl (u rfl (x_fa tf163_0 rfl) (u rfl (x_ld tsc5 rfl (S.load 0 rfl 0 rfl)) (u rfl (x_bin rfl rfl rfl) ?_))))))))))))
 obtain ⟨y17, hy18, H⟩ := obx H
 refine g rfl (cl fb125 (@r11_still.ok k (x2.length : Int) (y9.Kind == 114) _ _ _ _ hG S hy18) rfl ?_)
 rintro vy17_0 w ⟨vy17_0q, cy17_0, uy17_0, py17_0, J19, hJ20, rfl, hy17_0, my17_0, S⟩
 have hx0 := hx0.mono hJ20
 have hx2 := hx2.mono hJ20
 have y9h1 := y9h1.mono hJ20
 have y9h2 := y9h2.mono hJ20
 have y9h3 := y9h3.mono hJ20
 have hI := hI.trans hJ20
 have hG := hG.mono hJ20
 refine mv vy17_0 rfl <| sq <| sq <| FW.anew [(0, vx0), (2, vx2), (7, pt b16), (8, .int .i64 (x2.length : Int)), (9, vy17_0)] ⟨rfl, rfl, rfl, rfl, rfl, trivial⟩ fun σ => rg <| u rfl (x_fa tf163_0 rfl) <| u rfl (x_ld tsc5 rfl (S.load 2 rfl 0 rfl)) <| bk <| sr <| u rfl (x_bin rfl rfl rfl) <| mv (.bool (y9.Kind == 114)) rfl ?_
 by_cases cc21 : y9.Kind = 114
 ·rw [if_pos cc21] at H
  refine cT rfl (eqT cc21) <| sr <| mv (.int .i64 0) rfl <| bk ?_
  obtain ⟨o34, hl36, HO35⟩ := obx H
  refine FW.cutX 1 (fun σ w => ∃ (l38 : (List (List Bool))) (v39 : Value) (a40 : List Value) (u41 : List Value) (p42 : List (Value × List Value)) (J37 : IMem), l38 = o34 ∧ Has σ [(9, v39)] ∧ J19.le J37 ∧ Own J37 w (.bk b16 163 [.int .u8 y9.Kind, y9v1, y9v2, y9v3, .bool y9.Not, .bool y9.Num] :: .av v39 140 1 a40 :: .fam 4 1 p42 :: F) ∧ Flat tRaw J37 a40 u41 ∧ MxR tBool J37 u41 p42 l38) ?_ ?_
  ·refine FW.loop k (FL.ind (fun q σ w => ∃ (l23 : (List (List Bool))) (n31 : Int) (v24 : Value) (a25 : List Value) (u26 : List Value) (p27 : List (Value × List Value)) (J22 : IMem), r11_P_ends.l0 q x0 x2 y9 l23 n31 = some o34 ∧ q ≤ k ∧ Has σ [(0, vx0), (2, vx2), (7, pt b16), (9, v24), (10, .int .i64 n31)] ∧ J19.le J22 ∧ Own J22 w (.bk b16 163 [.int .u8 y9.Kind, y9v1, y9v2, y9v3, .bool y9.Not, .bool y9.Num] :: .av v24 140 1 a25 :: .fam 4 1 p27 :: F) ∧ Flat tRaw J22 a25 u26 ∧ MxR tBool J22 u26 p27 l23) ?_ ?_ k k _ _ (Nat.le_refl _) ⟨y17, 0, vy17_0, cy17_0, uy17_0, py17_0, J19, hl36, Nat.le_refl _, ⟨rfl, rfl, rfl, rfl, rfl, trivial⟩, (ilr _), (S.sel 3 [2, 0, 1] rfl), hy17_0, my17_0⟩)
   ·rintro σ w ⟨l23, n31, v24, a25, u26, p27, J22, H, _⟩; cases H
   rintro q32 σ w ⟨l23, n31, v24, a25, u26, p27, J22, H, hq46, hσ, hL33, S, h28, h29⟩
   have hx0 := hx0.mono hL33
   have hx2 := hx2.mono hL33
   have y9h1 := y9h1.mono hL33
   have hG := hG.mono hL33
   rw [hσ.eq]
   rw [r11_P_ends.l0] at H
   refine sq <| sr <| mv (.int .i64 n31) rfl <| u rfl (x_fa tf163_1 rfl) <| u rfl (x_ld tsc161 rfl (S.load 0 rfl 1 rfl)) <| u rfl (x_lenD (r := (tInt' .i64)) tsl161 y9h1) <| u rfl (x_bin rfl rfl rfl) ?_
   by_cases cc47 : n31 < (y9.Kids.length : Int)
   ·rw [if_pos cc47] at H
    refine cT rfl (deT cc47) <| sk <| sq <| bk <| rg <| mv v24 rfl <| mv vx0 rfl <| u rfl (x_fa tf163_1 rfl) <| u rfl (x_ld tsc161 rfl (S.load 0 rfl 1 rfl)) <| mv (.int .i64 n31) rfl ?_
    obtain ⟨y48, h49, H⟩ := obx H
    refine g rfl (o_ia (r := (tInt' .i64)) tsl161 rfl rfl y9h1 rfl h49 fun b50 o51 cs52 hr53 hc54 => ?_)
    obtain rfl := hr53
    refine u rfl (x_ld tsc3 rfl (S.cell _ _ _ (hc54 0 _ rfl))) <| mv vx2 rfl ?_
    obtain ⟨y55, hy56, H⟩ := obx H
    refine g rfl (cl fb98 (@ih_r11_P_ends q32 (by omega) x0 y48 x2 _ _ _ _ _ _ hG S hx0 hx2 hy56) rfl ?_)
    rintro vy55_0 w ⟨vy55_0q, cy55_0, uy55_0, py55_0, J57, hJ58, rfl, hy55_0, my55_0, S⟩
    have h28 := h28.mono hJ58
    have h29 := h29.mono hJ58
    have hL33 := hL33.trans hJ58
    have hG := hG.mono hJ58
    have S : Own J57 _ (.av v24 140 1 a25 :: .fam 4 1 p27 :: .av vy55_0 140 1 cy55_0 :: .fam 4 1 py55_0 :: .bk b16 163 [.int .u8 y9.Kind, y9v1, y9v2, y9v3, .bool y9.Not, .bool y9.Num] :: F) := (S.sel 5 [3, 4, 0, 1, 2] rfl)
    obtain ⟨J59, hJ61, S, h60⟩ := S.freezeM (r := tBool) h28 h29 rfl rfl
    have hy55_0 := hy55_0.mono hJ61
    have my55_0 := my55_0.mono hJ61
    have hL33 := hL33.trans hJ61
    have hG := hG.mono hJ61
    have S : Own J59 _ (.av vy55_0 140 1 cy55_0 :: .fam 4 1 py55_0 :: .tv v24 140 1 :: .bk b16 163 [.int .u8 y9.Kind, y9v1, y9v2, y9v3, .bool y9.Not, .bool y9.Num] :: F) := (S.sel 4 [1, 2, 0, 3] rfl)
    obtain ⟨J62, hJ64, S, h63⟩ := S.freezeM (r := tBool) hy55_0 my55_0 rfl rfl
    have h60 := h60.mono hJ64
    have hL33 := hL33.trans hJ64
    have hG := hG.mono hJ64
    obtain ⟨y65, hy66, H⟩ := obx H
    refine g rfl (cl fb126 (@r11_then.ok q32 l23 y55 _ _ _ _ _ _ hG S h60 h63 hy66) rfl ?_)
    rintro vy65_0 w ⟨vy65_0q, cy65_0, uy65_0, py65_0, J67, hJ68, rfl, hy65_0, my65_0, S⟩
    have hL33 := hL33.trans hJ68
    refine mv vy65_0 rfl <| FW.anew [(0, vx0), (2, vx2), (7, pt b16), (9, vy65_0), (10, .int .i64 n31)] ⟨rfl, rfl, rfl, rfl, rfl, trivial⟩ fun σ => rg <| mv (.int .i64 n31) rfl <| u rfl (x_bin rfl rfl rfl) <| mv (.int .i64 (i64 (n31 + 1))) rfl ⟨q32, Nat.le_refl _, y65, (i64 (n31 + 1)), vy65_0, cy65_0, uy65_0, py65_0, J67, H, (Nat.le_of_succ_le hq46), ⟨rfl, rfl, rfl, rfl, rfl, trivial⟩, hL33, (S.sel 5 [4, 0, 1] rfl), hy65_0, my65_0⟩
   rw [if_neg cc47] at H
   refine cF rfl (deF cc47) <| ex ⟨l23, v24, a25, u26, p27, J22, (si H), ⟨rfl, trivial⟩, hL33, S, h28, h29⟩
  rintro σ w ⟨l38, v39, a40, u41, p42, J37, ho, hσ, hL33, S, h43, h44⟩
  subst ho
  have H := HO35
  have hI := hI.trans hL33
  rw [hσ.eq]
  refine sr <| mv v39 rfl <| mv v39 rfl <| rt ?_
  obtain rfl := si H
  exact ⟨_, ⟨_, rfl, rfl⟩, ⟨v39, a40, u41, p42, J37, hI, rfl, h43, h44, (S.sel 3 [1, 2] rfl)⟩⟩
 rw [if_neg cc21] at H
 refine cF rfl (eqF cc21) <| sr <| u rfl (x_bin rfl rfl rfl) <| mv (.bool (y9.Kind == 99)) rfl ?_
 by_cases cc69 : y9.Kind = 99
 ·rw [if_pos cc69] at H
  refine cT rfl (eqT cc69) <| sr <| mv (.int .i64 0) rfl <| bk ?_
  obtain ⟨o82, hl84, HO83⟩ := obx H
  refine FW.cutX 3 (fun σ w => ∃ (l86 : (List (List Bool))) (v87 : Value) (a88 : List Value) (u89 : List Value) (p90 : List (Value × List Value)) (J85 : IMem), l86 = o82 ∧ Has σ [(9, v87)] ∧ J19.le J85 ∧ Own J85 w (.bk b16 163 [.int .u8 y9.Kind, y9v1, y9v2, y9v3, .bool y9.Not, .bool y9.Num] :: .av v87 140 1 a88 :: .fam 4 1 p90 :: F) ∧ Flat tRaw J85 a88 u89 ∧ MxR tBool J85 u89 p90 l86) ?_ ?_
  ·refine FW.loop k (FL.ind (fun q σ w => ∃ (l71 : (List (List Bool))) (n79 : Int) (v72 : Value) (a73 : List Value) (u74 : List Value) (p75 : List (Value × List Value)) (J70 : IMem), r11_P_ends.l1 q x0 x2 y9 l71 n79 = some o82 ∧ q ≤ k ∧ Has σ [(0, vx0), (2, vx2), (7, pt b16), (9, v72), (11, .int .i64 n79)] ∧ J19.le J70 ∧ Own J70 w (.bk b16 163 [.int .u8 y9.Kind, y9v1, y9v2, y9v3, .bool y9.Not, .bool y9.Num] :: .av v72 140 1 a73 :: .fam 4 1 p75 :: F) ∧ Flat tRaw J70 a73 u74 ∧ MxR tBool J70 u74 p75 l71) ?_ ?_ k k _ _ (Nat.le_refl _) ⟨y17, 0, vy17_0, cy17_0, uy17_0, py17_0, J19, hl84, Nat.le_refl _, ⟨rfl, rfl, rfl, rfl, rfl, trivial⟩, (ilr _), (S.sel 3 [2, 0, 1] rfl), hy17_0, my17_0⟩)
   ·rintro σ w ⟨l71, n79, v72, a73, u74, p75, J70, H, _⟩; cases H
   rintro q80 σ w ⟨l71, n79, v72, a73, u74, p75, J70, H, hq94, hσ, hL81, S, h76, h77⟩
   have hx0 := hx0.mono hL81
   have hx2 := hx2.mono hL81
   have y9h1 := y9h1.mono hL81
   have hG := hG.mono hL81
   rw [hσ.eq]
   rw [r11_P_ends.l1] at H
   refine sq <| sr <| mv (.int .i64 n79) rfl <| u rfl (x_fa tf163_1 rfl) <| u rfl (x_ld tsc161 rfl (S.load 0 rfl 1 rfl)) <| u rfl (x_lenD (r := (tInt' .i64)) tsl161 y9h1) <| u rfl (x_bin rfl rfl rfl) ?_
   by_cases cc95 : n79 < (y9.Kids.length : Int)
   ·rw [if_pos cc95] at H
    refine cT rfl (deT cc95) <| sk <| sq <| bk <| rg <| mv v72 rfl <| mv vx0 rfl <| u rfl (x_fa tf163_1 rfl) <| u rfl (x_ld tsc161 rfl (S.load 0 rfl 1 rfl)) <| mv (.int .i64 n79) rfl ?_
    obtain ⟨y96, h97, H⟩ := obx H
    refine g rfl (o_ia (r := (tInt' .i64)) tsl161 rfl rfl y9h1 rfl h97 fun b98 o99 cs100 hr101 hc102 => ?_)
    obtain rfl := hr101
    refine u rfl (x_ld tsc3 rfl (S.cell _ _ _ (hc102 0 _ rfl))) <| mv vx2 rfl ?_
    obtain ⟨y103, hy104, H⟩ := obx H
    refine g rfl (cl fb98 (@ih_r11_P_ends q80 (by omega) x0 y96 x2 _ _ _ _ _ _ hG S hx0 hx2 hy104) rfl ?_)
    rintro vy103_0 w ⟨vy103_0q, cy103_0, uy103_0, py103_0, J105, hJ106, rfl, hy103_0, my103_0, S⟩
    have h76 := h76.mono hJ106
    have h77 := h77.mono hJ106
    have hL81 := hL81.trans hJ106
    have hG := hG.mono hJ106
    have S : Own J105 _ (.av v72 140 1 a73 :: .fam 4 1 p75 :: .av vy103_0 140 1 cy103_0 :: .fam 4 1 py103_0 :: .bk b16 163 [.int .u8 y9.Kind, y9v1, y9v2, y9v3, .bool y9.Not, .bool y9.Num] :: F) := (S.sel 5 [3, 4, 0, 1, 2] rfl)
    obtain ⟨J107, hJ109, S, h108⟩ := S.freezeM (r := tBool) h76 h77 rfl rfl
    have hy103_0 := hy103_0.mono hJ109
    have my103_0 := my103_0.mono hJ109
    have hL81 := hL81.trans hJ109
    have hG := hG.mono hJ109
    have S : Own J107 _ (.av vy103_0 140 1 cy103_0 :: .fam 4 1 py103_0 :: .tv v72 140 1 :: .bk b16 163 [.int .u8 y9.Kind, y9v1, y9v2, y9v3, .bool y9.Not, .bool y9.Num] :: F) := (S.sel 4 [1, 2, 0, 3] rfl)
    obtain ⟨J110, hJ112, S, h111⟩ := S.freezeM (r := tBool) hy103_0 my103_0 rfl rfl
    have h108 := h108.mono hJ112
    have hL81 := hL81.trans hJ112
    have hG := hG.mono hJ112
    obtain ⟨y113, hy114, H⟩ := obx H
    refine g rfl (cl fb127 (@r11_either.ok q80 l71 y103 _ _ _ _ _ _ hG S h108 h111 hy114) rfl ?_)
    rintro vy113_0 w ⟨vy113_0q, cy113_0, uy113_0, py113_0, J115, hJ116, rfl, hy113_0, my113_0, S⟩
    have hL81 := hL81.trans hJ116
    refine mv vy113_0 rfl <| FW.anew [(0, vx0), (2, vx2), (7, pt b16), (9, vy113_0), (11, .int .i64 n79)] ⟨rfl, rfl, rfl, rfl, rfl, trivial⟩ fun σ => rg <| mv (.int .i64 n79) rfl <| u rfl (x_bin rfl rfl rfl) <| mv (.int .i64 (i64 (n79 + 1))) rfl ⟨q80, Nat.le_refl _, y113, (i64 (n79 + 1)), vy113_0, cy113_0, uy113_0, py113_0, J115, H, (Nat.le_of_succ_le hq94), ⟨rfl, rfl, rfl, rfl, rfl, trivial⟩, hL81, (S.sel 5 [4, 0, 1] rfl), hy113_0, my113_0⟩
   rw [if_neg cc95] at H
   refine cF rfl (deF cc95) <| ex ⟨l71, v72, a73, u74, p75, J70, (si H), ⟨rfl, trivial⟩, hL81, S, h76, h77⟩
  rintro σ w ⟨l86, v87, a88, u89, p90, J85, ho, hσ, hL81, S, h91, h92⟩
  subst ho
  have H := HO83
  have hI := hI.trans hL81
  rw [hσ.eq]
  refine sr <| mv v87 rfl <| mv v87 rfl <| rt ?_
  obtain rfl := si H
  exact ⟨_, ⟨_, rfl, rfl⟩, ⟨v87, a88, u89, p90, J85, hI, rfl, h91, h92, (S.sel 3 [1, 2] rfl)⟩⟩
 rw [if_neg cc69] at H
 refine cF rfl (eqF cc69) <| sq <| sr <| u rfl (x_bin rfl rfl rfl) <| mv (.bool (y9.Kind == 115)) rfl ?_
 obtain ⟨o119, H, HO120⟩ := obx H
 have hL121 := ilr J19
 refine FW.cutN (fun σ w => ∃ (b118 : Bool) (J117 : IMem), b118 = o119 ∧ Has σ [(0, vx0), (2, vx2), (7, pt b16), (8, .int .i64 (x2.length : Int)), (9, vy17_0), (29, .int .u8 y9.Kind), (68, .bool b118)] ∧ J19.le J117 ∧ Own J117 w (.av vy17_0 140 1 cy17_0 :: .fam 4 1 py17_0 :: .bk b16 163 [.int .u8 y9.Kind, y9v1, y9v2, y9v3, .bool y9.Not, .bool y9.Num] :: F)) ?_ ?_
 ·by_cases cc122 : y9.Kind = 115
  ·rw [if_pos cc122] at H
   refine cT rfl (eqT cc122) <| sk ⟨(y9.Kind == 115), J19, (si H), ⟨rfl, rfl, rfl, rfl, rfl, rfl, rfl, trivial⟩, hL121, S⟩
  rw [if_neg cc122] at H
  refine cF rfl (eqF cc122) <| FW.anew [(0, vx0), (2, vx2), (7, pt b16), (8, .int .i64 (x2.length : Int)), (9, vy17_0), (29, .int .u8 y9.Kind)] ⟨rfl, rfl, rfl, rfl, rfl, rfl, trivial⟩ fun σ => rg <| u rfl (x_bin rfl rfl rfl) <| mv (.bool (y9.Kind == 46)) rfl ⟨(y9.Kind == 46), J19, (si H), ⟨rfl, rfl, rfl, rfl, rfl, rfl, rfl, trivial⟩, hL121, S⟩
 rintro σ w ⟨b118, J117, ho, hσ, hL121, S⟩
 subst ho
 have H := HO120
 have hx0 := hx0.mono hL121
 have hx2 := hx2.mono hL121
 have hy17_0 := hy17_0.mono hL121
 have my17_0 := my17_0.mono hL121
 have y9h1 := y9h1.mono hL121
 have y9h2 := y9h2.mono hL121
 have y9h3 := y9h3.mono hL121
 have hI := hI.trans hL121
 have hG := hG.mono hL121
 rw [hσ.eq]
 by_cases cc123 : b118 = true
 ·rw [if_pos cc123] at H
  refine cT rfl cc123 <| sr <| mv (.int .i64 0) rfl <| bk ?_
  obtain ⟨o136, hl138, HO137⟩ := obx H
  refine FW.cutX 5 (fun σ w => ∃ (l140 : (List (List Bool))) (v141 : Value) (a142 : List Value) (u143 : List Value) (p144 : List (Value × List Value)) (J139 : IMem), l140 = o136 ∧ Has σ [(9, v141)] ∧ J117.le J139 ∧ Own J139 w (.bk b16 163 [.int .u8 y9.Kind, y9v1, y9v2, y9v3, .bool y9.Not, .bool y9.Num] :: .av v141 140 1 a142 :: .fam 4 1 p144 :: F) ∧ Flat tRaw J139 a142 u143 ∧ MxR tBool J139 u143 p144 l140) ?_ ?_
  ·refine FW.loop k (FL.ind (fun q σ w => ∃ (l125 : (List (List Bool))) (n133 : Int) (v126 : Value) (a127 : List Value) (u128 : List Value) (p129 : List (Value × List Value)) (J124 : IMem), r11_P_ends.l2 q x2 y9 l125 n133 = some o136 ∧ q ≤ k ∧ Has σ [(2, vx2), (7, pt b16), (8, .int .i64 (x2.length : Int)), (9, v126), (12, .int .i64 n133)] ∧ J117.le J124 ∧ Own J124 w (.bk b16 163 [.int .u8 y9.Kind, y9v1, y9v2, y9v3, .bool y9.Not, .bool y9.Num] :: .av v126 140 1 a127 :: .fam 4 1 p129 :: F) ∧ Flat tRaw J124 a127 u128 ∧ MxR tBool J124 u128 p129 l125) ?_ ?_ k k _ _ (Nat.le_refl _) ⟨y17, 0, vy17_0, cy17_0, uy17_0, py17_0, J117, hl138, Nat.le_refl _, ⟨rfl, rfl, rfl, rfl, rfl, trivial⟩, (ilr _), (S.sel 3 [2, 0, 1] rfl), hy17_0, my17_0⟩)
   ·rintro σ w ⟨l125, n133, v126, a127, u128, p129, J124, H, _⟩; cases H
   rintro q134 σ w ⟨l125, n133, v126, a127, u128, p129, J124, H, hq148, hσ, hL135, S, h130, h131⟩
   have hx2 := hx2.mono hL135
   have y9h1 := y9h1.mono hL135
   have y9h2 := y9h2.mono hL135
   have y9h3 := y9h3.mono hL135
   have hG := hG.mono hL135
   rw [hσ.eq]
   rw [r11_P_ends.l2] at H
   refine sq <| sr <| mv (.int .i64 n133) rfl <| mv (.int .i64 (x2.length : Int)) rfl <| u rfl (x_bin rfl rfl rfl) ?_
   by_cases cc149 : n133 < (x2.length : Int)
   ·rw [if_pos cc149] at H
    refine cT rfl (deT cc149) <| sk <| sq <| bk ?_
    have S := S.drew
    refine FW.regionD mixed ?_
    have hO := Hold.nil (w := { w with drawn := w.drawn + 1 })
    refine am 0 (v126) rfl (by kernel_rfl) hO <| am 1 (.int .i64 n133) rfl (by kernel_rfl) hO ?_
    obtain ⟨y150, h151, H⟩ := obx H
    have S : Own J124 _ (.fam 4 1 p129 :: .bk b16 163 [.int .u8 y9.Kind, y9v1, y9v2, y9v3, .bool y9.Not, .bool y9.Num] :: .av v126 140 1 a127 :: F) := (S.sel 3 [2, 0, 1] rfl)
    obtain ⟨v152, a153, hl154, hp155, h156, S⟩ := mx_at S h131 h151
    refine AQ.pureE 2 rfl (by kernel_rfl) (by kernel_rfl) (by kernel_rfl) rfl hO (e_iaVD (r := tRaw) tsl145 rfl rfl S 3 rfl h130 rfl hl154) ?_
    rintro _ ⟨b157, cs158, cc159, rfl, hv160, hr161, hc162⟩
    obtain ⟨rfl, _⟩ := hr161
    have hR163 := ilr J124
    refine ak (Stab J124 [.av v126 140 1 a127]) 3 rfl (by kernel_rfl) hO (Stab.of S 3 rfl hR163) (fun w hS => x_ld tsc140 rfl (hS.loadV 0 rfl hv160 (hc162 0 _ rfl))) fun hO => am 4 (.int .i64 n133) rfl (by kernel_rfl) hO <| ap 5 rfl (by kernel_rfl) hO (fun w => x_bin rfl rfl rfl) <| ap 6 rfl (by kernel_rfl) hO (fun w => x_fa tf163_0 rfl) <| ak (Stab J124 [.bk b16 163 [.int .u8 y9.Kind, y9v1, y9v2, y9v3, .bool y9.Not, .bool y9.Num]]) 7 rfl (by kernel_rfl) hO (Stab.of S 2 rfl hR163) (fun w hS => x_ld tsc5 rfl (hS.load 0 rfl 0 rfl)) fun hO => ap 8 rfl (by kernel_rfl) hO (fun w => x_bin rfl rfl rfl) <| am 9 (.bool (y9.Kind == 46)) rfl (by kernel_rfl) hO ?_
    by_cases cc164 : y9.Kind = 46
    ·rw [if_pos cc164] at H
     refine AQ.skip 10 rfl (by kernel_rfl) (by kernel_rfl) (by kernel_rfl) rfl rfl (eqT cc164) hO <| AQ.skip 11 rfl (by kernel_rfl) (by kernel_rfl) (by kernel_rfl) rfl rfl (eqT cc164) hO <| AQ.skip 12 rfl (by kernel_rfl) (by kernel_rfl) (by kernel_rfl) rfl rfl (eqT cc164) hO <| AQ.skip 13 rfl (by kernel_rfl) (by kernel_rfl) (by kernel_rfl) rfl rfl (eqT cc164) hO <| AQ.skip 14 rfl (by kernel_rfl) (by kernel_rfl) (by kernel_rfl) rfl rfl (eqT cc164) hO <| AQ.skip 15 rfl (by kernel_rfl) (by kernel_rfl) (by kernel_rfl) rfl rfl (eqT cc164) hO <| AQ.skip 16 rfl (by kernel_rfl) (by kernel_rfl) (by kernel_rfl) rfl rfl (eqT cc164) hO <| ap 17 rfl (by kernel_rfl) hO (fun w => x_pickTV (v := .bool true) rfl (eqT cc164) rfl) ?_
     obtain ⟨y165, h166, H⟩ := obx H
     refine AQ.pureE 18 rfl (by kernel_rfl) (by kernel_rfl) (by kernel_rfl) rfl hO (e_iaVD (r := tBool) tsl140 rfl rfl S 0 rfl h156 rfl h166) ?_
     rintro _ ⟨b167, cs168, cc169, rfl, hv170, hr171, hc172⟩
     obtain rfl := hr171
     refine AQ.one 19 [7, 3] [false, false] (by kernel_rfl) rfl (by kernel_rfl) <| g rfl (o_stV (r := tBool) (f := 0) (y' := true) tone4 rfl S 0 rfl hv170 h156 h166 rfl hc172 rfl rfl rfl rfl rfl fun w a173 S h174 => andI Hold.nil fun hO => AQ.done (by kernel_rfl) ?_)
     obtain ⟨S, h175⟩ := mx_back S hp155 h131 h174
     refine FW.anew [(2, vx2), (7, pt b16), (8, .int .i64 (x2.length : Int)), (9, v126), (12, .int .i64 n133)] ⟨rfl, rfl, rfl, rfl, rfl, trivial⟩ fun σ => rg <| mv (.int .i64 n133) rfl <| u rfl (x_bin rfl rfl rfl) <| mv (.int .i64 (i64 (n133 + 1))) rfl ⟨q134, Nat.le_refl _, (l125.set (n133 : Int).toNat (y150.set (i64 (n133 + 1)).toNat true)), (i64 (n133 + 1)), v126, a127, u128, (p129.set (n133 : Int).toNat (v152, a173)), J124, H, (Nat.le_of_succ_le hq148), ⟨rfl, rfl, rfl, rfl, rfl, trivial⟩, hL135, (S.sel 3 [1, 2, 0] rfl), h130, h175⟩
    rw [if_neg cc164] at H
    refine AQ.take (S := Stab J124 [.bk b16 163 [.int .u8 y9.Kind, y9v1, y9v2, y9v3, .bool y9.Not, .bool y9.Num]]) 10 rfl (by kernel_rfl) (by kernel_rfl) (by kernel_rfl) (gT rfl rfl (eqF cc164)) hO (Stab.of S 2 rfl hR163) (fun w hS => x_ldA tag163 rfl (hS.loadW 0 rfl) rfl) fun hO => AQ.pure 11 rfl (by kernel_rfl) (by kernel_rfl) (by kernel_rfl) (gT rfl rfl (eqF cc164)) hO (fun w => x_movV (v := vx2) rfl) <| AQ.pure 12 rfl (by kernel_rfl) (by kernel_rfl) (by kernel_rfl) (gT rfl rfl (eqF cc164)) hO (fun w => x_movV (v := .int .i64 n133) rfl) ?_
    obtain ⟨y176, h177, H⟩ := obx H
    refine AQ.pureE 13 rfl (by kernel_rfl) (by kernel_rfl) (by kernel_rfl) (gT rfl rfl (eqF cc164)) hO (e_ia (r := (tInt' .u32)) tsl25 rfl rfl hx2 rfl h177) ?_
    rintro _ ⟨b178, o179, cs180, rfl, hr181, hc182⟩
    obtain rfl := hr181
    refine AQ.take (S := Stab J124 []) 14 rfl (by kernel_rfl) (by kernel_rfl) (by kernel_rfl) (gT rfl rfl (eqF cc164)) hO (Stab.nil S hR163) (fun w hS => x_ld tsc23 rfl (hS.cell _ _ _ (hc182 0 _ rfl))) fun hO => AQ.pure 15 rfl (by kernel_rfl) (by kernel_rfl) (by kernel_rfl) (gT rfl rfl (eqF cc164)) hO (fun w => x_conv tint3 tint_23 rfl) <| AQ.one 16 [14, 10, 7, 3] [true, false, true, true] (by kernel_rfl) rfl (by kernel_rfl) ?_
    obtain ⟨y183, hy184, H⟩ := obx H
    refine OK.gt rfl rfl rfl (eqF cc164) (cl fb128 (@r11_Node_in.ok q134 y9 (i64 y176) _ _ _ _ _ _ _ hG S y9h1 y9h2 y9h3 hy184) rfl ?_)
    rintro _ w ⟨rfl, S⟩
    refine andI (Hold.cons (Stab.nil S hR163) (Hold.cons (Stab.of S 2 rfl hR163) (Hold.cons (Stab.of S 3 rfl hR163) Hold.nil))) fun hO => ap 17 rfl (by kernel_rfl) hO (fun w => x_pickFV (v := .bool y183) rfl (eqF cc164) rfl) ?_
    obtain ⟨y185, h186, H⟩ := obx H
    refine AQ.pureE 18 rfl (by kernel_rfl) (by kernel_rfl) (by kernel_rfl) rfl hO (e_iaVD (r := tBool) tsl140 rfl rfl S 0 rfl h156 rfl h186) ?_
    rintro _ ⟨b187, cs188, cc189, rfl, hv190, hr191, hc192⟩
    obtain rfl := hr191
    refine AQ.one 19 [14, 7, 3] [false, false, false] (by kernel_rfl) rfl (by kernel_rfl) <| g rfl (o_stV (r := tBool) (f := 0) (y' := y183) tone4 rfl S 0 rfl hv190 h156 h186 rfl hc192 rfl rfl rfl rfl rfl fun w a193 S h194 => andI Hold.nil fun hO => AQ.done (by kernel_rfl) ?_)
    obtain ⟨S, h195⟩ := mx_back S hp155 h131 h194
    refine FW.anew [(2, vx2), (7, pt b16), (8, .int .i64 (x2.length : Int)), (9, v126), (12, .int .i64 n133)] ⟨rfl, rfl, rfl, rfl, rfl, trivial⟩ fun σ => rg <| mv (.int .i64 n133) rfl <| u rfl (x_bin rfl rfl rfl) <| mv (.int .i64 (i64 (n133 + 1))) rfl ⟨q134, Nat.le_refl _, (l125.set (n133 : Int).toNat (y150.set (i64 (n133 + 1)).toNat y183)), (i64 (n133 + 1)), v126, a127, u128, (p129.set (n133 : Int).toNat (v152, a193)), J124, H, (Nat.le_of_succ_le hq148), ⟨rfl, rfl, rfl, rfl, rfl, trivial⟩, hL135, (S.sel 3 [1, 2, 0] rfl), h130, h195⟩
   rw [if_neg cc149] at H
   refine cF rfl (deF cc149) <| ex ⟨l125, v126, a127, u128, p129, J124, (si H), ⟨rfl, trivial⟩, hL135, S, h130, h131⟩
  rintro σ w ⟨l140, v141, a142, u143, p144, J139, ho, hσ, hL135, S, h145, h146⟩
  subst ho
  have H := HO137
  have hI := hI.trans hL135
  rw [hσ.eq]
  refine sr <| mv v141 rfl <| mv v141 rfl <| rt ?_
  obtain rfl := si H
  exact ⟨_, ⟨_, rfl, rfl⟩, ⟨v141, a142, u143, p144, J139, hI, rfl, h145, h146, (S.sel 3 [1, 2] rfl)⟩⟩
 rw [if_neg cc123] at H
 refine cF rfl (vaF cc123) <| sr <| u rfl (x_bin rfl rfl rfl) <| mv (.bool (y9.Kind == 94)) rfl ?_
 by_cases cc196 : y9.Kind = 94
 ·rw [if_pos cc196] at H
  refine cT rfl (eqT cc196) <| rg <| mv vy17_0 rfl ?_
  obtain ⟨y197, h198, H⟩ := obx H
  have S : Own J117 _ (.fam 4 1 py17_0 :: .av vy17_0 140 1 cy17_0 :: .bk b16 163 [.int .u8 y9.Kind, y9v1, y9v2, y9v3, .bool y9.Not, .bool y9.Num] :: F) := (S.sel 3 [1, 0, 2] rfl)
  obtain ⟨v199, a200, hl201, hp202, h203, S⟩ := mx_at S my17_0 h198
  refine g rfl (o_iaV (r := tRaw) tsl145 rfl rfl S 2 rfl hy17_0 rfl hl201 fun b204 cs205 cc206 hv207 hr208 hc209 => ?_)
  obtain ⟨rfl, _⟩ := hr208
  refine u rfl (x_ld tsc140 rfl (S.loadV 2 rfl hv207 (hc209 0 _ rfl))) ?_
  obtain ⟨y210, h211, H⟩ := obx H
  refine g rfl (o_iaV (r := tBool) tsl140 rfl rfl S 0 rfl h203 rfl h211 fun b212 cs213 cc214 hv215 hr216 hc217 => ?_)
  obtain rfl := hr216
  refine g rfl (o_stV (r := tBool) (f := 0) (y' := true) tone4 rfl S 0 rfl hv215 h203 h211 rfl hc217 rfl rfl rfl rfl rfl fun w a218 S h219 => ?_)
  obtain ⟨S, h220⟩ := mx_back S hp202 my17_0 h219
  refine sq <| FW.anew [(9, vy17_0)] ⟨rfl, trivial⟩ fun σ => rg <| mv vy17_0 rfl <| mv vy17_0 rfl <| rt ?_
  obtain rfl := si H
  exact ⟨_, ⟨_, rfl, rfl⟩, ⟨vy17_0, cy17_0, uy17_0, (py17_0.set (0 : Int).toNat (v199, a218)), J117, hI, rfl, hy17_0, h220, (S.sel 3 [1, 0] rfl)⟩⟩
 rw [if_neg cc196] at H
 refine cF rfl (eqF cc196) <| sr <| u rfl (x_bin rfl rfl rfl) <| mv (.bool (y9.Kind == 36)) rfl ?_
 by_cases cc221 : y9.Kind = 36
 ·rw [if_pos cc221] at H
  refine cT rfl (eqT cc221) <| rg <| mv vy17_0 rfl <| mv (.int .i64 (x2.length : Int)) rfl ?_
  obtain ⟨y222, h223, H⟩ := obx H
  have S : Own J117 _ (.fam 4 1 py17_0 :: .av vy17_0 140 1 cy17_0 :: .bk b16 163 [.int .u8 y9.Kind, y9v1, y9v2, y9v3, .bool y9.Not, .bool y9.Num] :: F) := (S.sel 3 [1, 0, 2] rfl)
  obtain ⟨v224, a225, hl226, hp227, h228, S⟩ := mx_at S my17_0 h223
  refine g rfl (o_iaV (r := tRaw) tsl145 rfl rfl S 2 rfl hy17_0 rfl hl226 fun b229 cs230 cc231 hv232 hr233 hc234 => ?_)
  obtain ⟨rfl, _⟩ := hr233
  refine u rfl (x_ld tsc140 rfl (S.loadV 2 rfl hv232 (hc234 0 _ rfl))) <| mv (.int .i64 (x2.length : Int)) rfl ?_
  obtain ⟨y235, h236, H⟩ := obx H
  refine g rfl (o_iaV (r := tBool) tsl140 rfl rfl S 0 rfl h228 rfl h236 fun b237 cs238 cc239 hv240 hr241 hc242 => ?_)
  obtain rfl := hr241
  refine g rfl (o_stV (r := tBool) (f := 0) (y' := true) tone4 rfl S 0 rfl hv240 h228 h236 rfl hc242 rfl rfl rfl rfl rfl fun w a243 S h244 => ?_)
  obtain ⟨S, h245⟩ := mx_back S hp227 my17_0 h244
  refine sq <| FW.anew [(9, vy17_0)] ⟨rfl, trivial⟩ fun σ => rg <| mv vy17_0 rfl <| mv vy17_0 rfl <| rt ?_
  obtain rfl := si H
  exact ⟨_, ⟨_, rfl, rfl⟩, ⟨vy17_0, cy17_0, uy17_0, (py17_0.set ((x2.length : Int) : Int).toNat (v224, a243)), J117, hI, rfl, hy17_0, h245, (S.sel 3 [1, 0] rfl)⟩⟩
 rw [if_neg cc221] at H
 refine cF rfl (eqF cc221) <| sr <| u rfl (x_bin rfl rfl rfl) <| mv (.bool (y9.Kind == 63)) rfl ?_
 by_cases cc246 : y9.Kind = 63
 ·rw [if_pos cc246] at H
  refine cT rfl (eqT cc246) ?_
  have S := S.drew
  refine FW.regionD mixed ?_
  have hO := Hold.nil (w := { w with drawn := w.drawn + 1 })
  refine am 0 (.int .i64 (x2.length : Int)) rfl (by kernel_rfl) hO <| am 2 (vx0) rfl (by kernel_rfl) hO <| ap 3 rfl (by kernel_rfl) hO (fun w => x_fa tf163_1 rfl) ?_
  have hR247 := ilr J117
  refine ak (Stab J117 [.bk b16 163 [.int .u8 y9.Kind, y9v1, y9v2, y9v3, .bool y9.Not, .bool y9.Num]]) 4 rfl (by kernel_rfl) hO (Stab.of S 2 rfl hR247) (fun w hS => x_ld tsc161 rfl (hS.load 0 rfl 1 rfl)) fun hO => ?_
  obtain ⟨y248, h249, H⟩ := obx H
  refine AQ.pureE 5 rfl (by kernel_rfl) (by kernel_rfl) (by kernel_rfl) rfl hO (e_ia (r := (tInt' .i64)) tsl161 rfl rfl y9h1 rfl h249) ?_
  rintro _ ⟨b250, o251, cs252, rfl, hr253, hc254⟩
  obtain rfl := hr253
  refine ak (Stab J117 []) 6 rfl (by kernel_rfl) hO (Stab.nil S hR247) (fun w hS => x_ld tsc3 rfl (hS.cell _ _ _ (hc254 0 _ rfl))) fun hO => am 7 (vx2) rfl (by kernel_rfl) hO <| AQ.one 1 [6, 4] [true, true] (by kernel_rfl) rfl (by kernel_rfl) ?_
  obtain ⟨y255, hy256, H⟩ := obx H
  refine g rfl (cl fb125 (@r11_still.ok k (x2.length : Int) true _ _ _ _ hG S hy256) rfl ?_)
  rintro vy255_0 w ⟨vy255_0q, cy255_0, uy255_0, py255_0, J257, hJ258, rfl, hy255_0, my255_0, S⟩
  have hx0 := hx0.mono hJ258
  have hx2 := hx2.mono hJ258
  have hI := hI.trans hJ258
  have hR247 := hR247.trans hJ258
  have hG := hG.mono hJ258
  refine andI (Hold.cons (Stab.nil S hR247) (Hold.cons (Stab.of S 4 rfl hR247) Hold.nil)) fun hO => AQ.one 8 [6, 4] [false, true] (by kernel_rfl) rfl (by kernel_rfl) ?_
  obtain ⟨y259, hy260, H⟩ := obx H
  refine g rfl (cl fb98 (@ih_r11_P_ends k (by omega) x0 y248 x2 _ _ _ _ _ _ hG S hx0 hx2 hy260) rfl ?_)
  rintro vy259_0 w ⟨vy259_0q, cy259_0, uy259_0, py259_0, J261, hJ262, rfl, hy259_0, my259_0, S⟩
  have hy255_0 := hy255_0.mono hJ262
  have my255_0 := my255_0.mono hJ262
  have hI := hI.trans hJ262
  have hR247 := hR247.trans hJ262
  have hG := hG.mono hJ262
  refine andI (Hold.cons (Stab.of S 6 rfl hR247) Hold.nil) fun hO => AQ.one 9 [4] [true] (by kernel_rfl) rfl (by kernel_rfl) ?_
  have S : Own J261 _ (.av vy255_0 140 1 cy255_0 :: .fam 4 1 py255_0 :: .av vy259_0 140 1 cy259_0 :: .fam 4 1 py259_0 :: .av vy17_0 140 1 cy17_0 :: .fam 4 1 py17_0 :: .bk b16 163 [.int .u8 y9.Kind, y9v1, y9v2, y9v3, .bool y9.Not, .bool y9.Num] :: F) := (S.sel 7 [2, 3, 0, 1, 4, 5, 6] rfl)
  obtain ⟨J263, hJ265, S, h264⟩ := S.freezeM (r := tBool) hy255_0 my255_0 rfl rfl
  have hy259_0 := hy259_0.mono hJ265
  have my259_0 := my259_0.mono hJ265
  have hI := hI.trans hJ265
  have hR247 := hR247.trans hJ265
  have hG := hG.mono hJ265
  have S : Own J263 _ (.av vy259_0 140 1 cy259_0 :: .fam 4 1 py259_0 :: .tv vy255_0 140 1 :: .av vy17_0 140 1 cy17_0 :: .fam 4 1 py17_0 :: .bk b16 163 [.int .u8 y9.Kind, y9v1, y9v2, y9v3, .bool y9.Not, .bool y9.Num] :: F) := (S.sel 6 [1, 2, 0, 3, 4, 5] rfl)
  obtain ⟨J266, hJ268, S, h267⟩ := S.freezeM (r := tBool) hy259_0 my259_0 rfl rfl
  have h264 := h264.mono hJ268
  have hI := hI.trans hJ268
  have hR247 := hR247.trans hJ268
  have hG := hG.mono hJ268
  obtain ⟨y269, hy270, H⟩ := obx H
  refine g rfl (cl fb127 (@r11_either.ok k y255 y259 _ _ _ _ _ _ hG S h264 h267 hy270) rfl ?_)
  rintro vy269_0 w ⟨vy269_0q, cy269_0, uy269_0, py269_0, J271, hJ272, rfl, hy269_0, my269_0, S⟩
  have hI := hI.trans hJ272
  have hR247 := hR247.trans hJ272
  refine andI (Hold.cons (Stab.of S 6 rfl hR247) Hold.nil) fun hO => ap 10 rfl (by kernel_rfl) hO (fun w => x_asgV (v := vy269_0) rfl) <| AQ.done (by kernel_rfl) <| sq <| FW.anew [(9, vy269_0)] ⟨rfl, trivial⟩ fun σ => rg <| mv vy269_0 rfl <| mv vy269_0 rfl <| rt ?_
  obtain rfl := si H
  exact ⟨_, ⟨_, rfl, rfl⟩, ⟨vy269_0, cy269_0, uy269_0, py269_0, J271, hI, rfl, hy269_0, my269_0, (S.sel 7 [0, 1] rfl)⟩⟩
 rw [if_neg cc246] at H
 refine cF rfl (eqF cc246) <| sr <| u rfl (x_bin rfl rfl rfl) <| mv (.bool (y9.Kind == 42)) rfl ?_
 by_cases cc273 : y9.Kind = 42
 ·rw [if_pos cc273] at H
  refine cT rfl (eqT cc273) <| FW.anew [(0, vx0), (2, vx2), (7, pt b16)] ⟨rfl, rfl, rfl, trivial⟩ fun σ => rg <| mv vx0 rfl <| u rfl (x_fa tf163_1 rfl) <| u rfl (x_ld tsc161 rfl (S.load 2 rfl 1 rfl)) ?_
  obtain ⟨y274, h275, H⟩ := obx H
  refine g rfl (o_ia (r := (tInt' .i64)) tsl161 rfl rfl y9h1 rfl h275 fun b276 o277 cs278 hr279 hc280 => ?_)
  obtain rfl := hr279
  refine u rfl (x_ld tsc3 rfl (S.cell _ _ _ (hc280 0 _ rfl))) <| mv vx2 rfl ?_
  obtain ⟨y281, hy282, H⟩ := obx H
  refine g rfl (cl fb98 (@ih_r11_P_ends k (by omega) x0 y274 x2 _ _ _ _ _ _ hG S hx0 hx2 hy282) rfl ?_)
  rintro vy281_0 w ⟨vy281_0q, cy281_0, uy281_0, py281_0, J283, hJ284, rfl, hy281_0, my281_0, S⟩
  have hI := hI.trans hJ284
  have hG := hG.mono hJ284
  obtain ⟨J285, hJ287, S, h286⟩ := S.freezeM (r := tBool) hy281_0 my281_0 rfl rfl
  have hI := hI.trans hJ287
  have hG := hG.mono hJ287
  obtain ⟨y288, hy289, H⟩ := obx H
  refine g rfl (cl fb129 (@r11_often.ok k y281 _ _ _ _ _ hG S h286 hy289) rfl ?_)
  rintro vy288_0 w ⟨vy288_0q, cy288_0, uy288_0, py288_0, J290, hJ291, rfl, hy288_0, my288_0, S⟩
  have hI := hI.trans hJ291
  refine mv vy288_0 rfl <| sq <| FW.anew [(9, vy288_0)] ⟨rfl, trivial⟩ fun σ => rg <| mv vy288_0 rfl <| mv vy288_0 rfl <| rt ?_
  obtain rfl := si H
  exact ⟨_, ⟨_, rfl, rfl⟩, ⟨vy288_0, cy288_0, uy288_0, py288_0, J290, hI, rfl, hy288_0, my288_0, (S.sel 6 [0, 1] rfl)⟩⟩
 rw [if_neg cc273] at H
 refine cF rfl (eqF cc273) <| sq <| FW.anew [(0, vx0), (2, vx2), (7, pt b16), (9, vy17_0), (29, .int .u8 y9.Kind)] ⟨rfl, rfl, rfl, rfl, rfl, trivial⟩ fun σ => rg <| u rfl (x_bin rfl rfl rfl) <| mv (.bool (y9.Kind == 43)) rfl ?_
 by_cases cc292 : y9.Kind = 43
 ·rw [if_pos cc292] at H
  refine cT rfl (eqT cc292) <| sr <| mv vx0 rfl <| u rfl (x_fa tf163_1 rfl) <| u rfl (x_ld tsc161 rfl (S.load 2 rfl 1 rfl)) ?_
  obtain ⟨y293, h294, H⟩ := obx H
  refine g rfl (o_ia (r := (tInt' .i64)) tsl161 rfl rfl y9h1 rfl h294 fun b295 o296 cs297 hr298 hc299 => ?_)
  obtain rfl := hr298
  refine u rfl (x_ld tsc3 rfl (S.cell _ _ _ (hc299 0 _ rfl))) <| mv vx2 rfl ?_
  obtain ⟨y300, hy301, H⟩ := obx H
  refine g rfl (cl fb98 (@ih_r11_P_ends k (by omega) x0 y293 x2 _ _ _ _ _ _ hG S hx0 hx2 hy301) rfl ?_)
  rintro vy300_0 w ⟨vy300_0q, cy300_0, uy300_0, py300_0, J302, hJ303, rfl, hy300_0, my300_0, S⟩
  have hI := hI.trans hJ303
  have hG := hG.mono hJ303
  refine mv vy300_0 rfl <| FW.anew [(13, vy300_0)] ⟨rfl, trivial⟩ fun σ => rg <| mv vy300_0 rfl <| mv vy300_0 rfl ?_
  obtain ⟨J304, hJ306, S, h305⟩ := S.freezeM (r := tBool) hy300_0 my300_0 rfl rfl
  have hI := hI.trans hJ306
  have hG := hG.mono hJ306
  obtain ⟨y307, hy308, H⟩ := obx H
  refine g rfl (cl fb129 (@r11_often.ok k y300 _ _ _ _ _ hG S h305 hy308) rfl ?_)
  rintro vy307_0 w ⟨vy307_0q, cy307_0, uy307_0, py307_0, J309, hJ310, rfl, hy307_0, my307_0, S⟩
  have h305 := h305.mono hJ310
  have hI := hI.trans hJ310
  have hG := hG.mono hJ310
  obtain ⟨J311, hJ313, S, h312⟩ := S.freezeM (r := tBool) hy307_0 my307_0 rfl rfl
  have h305 := h305.mono hJ313
  have hI := hI.trans hJ313
  have hG := hG.mono hJ313
  obtain ⟨y314, hy315, H⟩ := obx H
  refine g rfl (cl fb126 (@r11_then.ok k y300 y307 _ _ _ _ _ _ hG S h305 h312 hy315) rfl ?_)
  rintro vy314_0 w ⟨vy314_0q, cy314_0, uy314_0, py314_0, J316, hJ317, rfl, hy314_0, my314_0, S⟩
  have hI := hI.trans hJ317
  refine mv vy314_0 rfl <| sr <| mv vy314_0 rfl <| mv vy314_0 rfl <| rt ?_
  obtain rfl := si H
  exact ⟨_, ⟨_, rfl, rfl⟩, ⟨vy314_0, cy314_0, uy314_0, py314_0, J316, hI, rfl, hy314_0, my314_0, (S.sel 7 [0, 1] rfl)⟩⟩
 rw [if_neg cc292] at H
 refine cF rfl (eqF cc292) <| sk <| sr <| mv vy17_0 rfl <| mv vy17_0 rfl <| rt ?_
 obtain rfl := si H
 exact ⟨_, ⟨_, rfl, rfl⟩, ⟨vy17_0, cy17_0, uy17_0, py17_0, J117, hI, rfl, hy17_0, my17_0, (S.sel 3 [0, 1] rfl)⟩⟩
theorem r11_P_ends.zero : r11_P_ends.C 0 := by
  intro _ _ _ _ _ _ _ _ _ _ _ _ _ H; cases H
theorem r11_P_ends.grp : ∀ k m, m ≤ k → r11_P_ends.C m
  | 0, m, h => by
    obtain rfl : m = 0 := by omega
    exact r11_P_ends.zero
  | k + 1, 0, _ => r11_P_ends.zero
  | k + 1, m + 1, h => r11_P_ends.step m (fun i hi => (r11_P_ends.grp k i (by omega)))
theorem r11_P_ends.ok (k : Nat) : r11_P_ends.C k := (r11_P_ends.grp k k (Nat.le_refl k))
def r11_P_Match.l1 : Nat → (List (List Bool)) → Int → Int → Option (Sum Bool Unit)
  | 0, _, _, _ => none
  | k + 1, y1, n6, n16 => (if n16 < (y1.length : Int) then ((lat y1 n6).bind fun y25 => ((lat y25 n16).bind fun y38 => (if y38 = true then (some (.inl true)) else (r11_P_Match.l1 k y1 n6 (i64 (n16 + 1)))))) else (some (.inr ())))
def r11_P_Match.l0 : Nat → (List (List Bool)) → Int → Option (Sum Bool Unit)
  | 0, _, _ => none
  | k + 1, y1, n6 => (if n6 < (y1.length : Int) then (((r11_P_Match.l1 k y1 n6 0) : Option (Sum Bool Unit)).bind fun o => match o with | .inl r => some (.inl r) | .inr _ => (r11_P_Match.l0 k y1 (i64 (n6 + 1)))) else (some (.inr ())))
def r11_P_Match.f (k : Nat) (x0 : (Option T_r11_P)) (x1 : Int) (x2 : (List Int)) : Option Bool := ((r11_P_ends.f k x0 x1 x2).bind fun y1 => (((r11_P_Match.l0 k y1 0) : Option (Sum Bool Unit)).bind fun o => match o with | .inl r => some r | .inr _ => (some false)))
abbrev r11_P_Match.C (k : Nat) : Prop := ∀ {x0 : (Option T_r11_P)} {x1 : Int} {x2 : (List Int)} {vx0 : Value} {vx2 : Value} {F : List It} {I : IMem} {w : World} {r : Bool}, Glob I → Own I w (F) → PtR R_r11_P I vx0 x0 → SlR (tInt' .u32) I vx2 x2 → r11_P_Match.f k x0 x1 x2 = some r →
    Calls Tryz.prog 55 #[vx0, .int .i64 x1, vx2] w fun e w' => ∃ v, e = .returned v ∧ v = .bool r ∧ Own I w' (F)
theorem r11_P_Match.ok (k : Nat) : r11_P_Match.C k := by
 intro x0 x1 x2 vx0 vx2 F I w r hG S hx0 hx2 H
 have hI := ilr I
 rw [r11_P_Match.f] at H
 refine Calls.ofFW (args := [vx0, .int .i64 x1, vx2]) Tryz.func55 rfl rfl <| sr <| mv (.bool false) rfl <| sr <| mv vx0 rfl <| mv (.int .i64 x1) rfl <| mv vx2 rfl ?_
 obtain ⟨y1, hy2, H⟩ := obx H
 refine g rfl (cl fb98 (@r11_P_ends.ok k x0 x1 x2 _ _ _ _ _ _ hG S hx0 hx2 hy2) rfl ?_)
 rintro vy1_0 w ⟨vy1_0q, cy1_0, uy1_0, py1_0, J3, hJ4, rfl, hy1_0, my1_0, S⟩
 have hI := hI.trans hJ4
 refine mv vy1_0 rfl <| sq <| sr <| mv (.int .i64 0) rfl <| bk ?_
 obtain ⟨o9, hl11, HO10⟩ := obx H
 refine FW.cutX 0 (fun σ w => ∃ (J12 : IMem), (.inr ()) = o9 ∧ Has σ [] ∧ J3.le J12 ∧ Own J12 w (F)) ?_ ?_
 ·refine FW.loop k (FL.ind (fun q σ w => ∃ (n6 : Int) (J5 : IMem), r11_P_Match.l0 q y1 n6 = some o9 ∧ q ≤ k ∧ Has σ [(7, vy1_0), (8, .int .i64 n6)] ∧ J3.le J5 ∧ Own J5 w (.av vy1_0 140 1 cy1_0 :: .fam 4 1 py1_0 :: F)) ?_ ?_ k k _ _ (Nat.le_refl _) ⟨0, J3, hl11, Nat.le_refl _, ⟨rfl, rfl, trivial⟩, (ilr _), S⟩)
  ·rintro σ w ⟨n6, J5, H, _⟩; cases H
  rintro q7 σ w ⟨n6, J5, H, hq13, hσ, hL8, S⟩
  have hy1_0 := hy1_0.mono hL8
  have my1_0 := my1_0.mono hL8
  have hI := hI.trans hL8
  rw [hσ.eq]
  rw [r11_P_Match.l0] at H
  refine sq <| sr <| mv (.int .i64 n6) rfl <| mv vy1_0 rfl <| u rfl (x_lenM tsl145 S 0 rfl hy1_0 my1_0) <| u rfl (x_bin rfl rfl rfl) ?_
  by_cases cc14 : n6 < (y1.length : Int)
  ·rw [if_pos cc14] at H
   refine cT rfl (deT cc14) <| sk <| sq <| bk <| sr <| mv (.int .i64 0) rfl <| bk ?_
   obtain ⟨o19, hl21, HO20⟩ := obx H
   refine FW.cutX 2 (fun σ w => ∃ (J22 : IMem), (.inr ()) = o19 ∧ Has σ [(7, vy1_0), (8, .int .i64 n6)] ∧ J5.le J22 ∧ Own J22 w (.av vy1_0 140 1 cy1_0 :: .fam 4 1 py1_0 :: F)) ?_ ?_
   ·refine FW.loop q7 (FL.ind (fun q σ w => ∃ (n16 : Int) (J15 : IMem), r11_P_Match.l1 q y1 n6 n16 = some o19 ∧ q ≤ q7 ∧ Has σ [(7, vy1_0), (8, .int .i64 n6), (9, .int .i64 n16)] ∧ J5.le J15 ∧ Own J15 w (.av vy1_0 140 1 cy1_0 :: .fam 4 1 py1_0 :: F)) ?_ ?_ q7 q7 _ _ (Nat.le_refl _) ⟨0, J5, hl21, Nat.le_refl _, ⟨rfl, rfl, rfl, trivial⟩, (ilr _), S⟩)
    ·rintro σ w ⟨n16, J15, H, _⟩; cases H
    rintro q17 σ w ⟨n16, J15, H, hq23, hσ, hL18, S⟩
    have hy1_0 := hy1_0.mono hL18
    have my1_0 := my1_0.mono hL18
    have hI := hI.trans hL18
    rw [hσ.eq]
    rw [r11_P_Match.l1] at H
    refine sq <| sr <| mv (.int .i64 n16) rfl <| mv vy1_0 rfl <| u rfl (x_lenM tsl145 S 0 rfl hy1_0 my1_0) <| u rfl (x_bin rfl rfl rfl) ?_
    by_cases cc24 : n16 < (y1.length : Int)
    ·rw [if_pos cc24] at H
     refine cT rfl (deT cc24) <| sk <| sq <| bk <| sr <| mv vy1_0 rfl <| mv (.int .i64 n6) rfl ?_
     obtain ⟨y25, h26, H⟩ := obx H
     have S : Own J15 _ (.fam 4 1 py1_0 :: .av vy1_0 140 1 cy1_0 :: F) := (S.sel 2 [1, 0] rfl)
     obtain ⟨v27, a28, hl29, hp30, h31, S⟩ := mx_at S my1_0 h26
     refine g rfl (o_iaV (r := tRaw) tsl145 rfl rfl S 2 rfl hy1_0 rfl hl29 fun b32 cs33 cc34 hv35 hr36 hc37 => ?_)
     obtain ⟨rfl, _⟩ := hr36
     refine u rfl (x_ld tsc140 rfl (S.loadV 2 rfl hv35 (hc37 0 _ rfl))) <| mv (.int .i64 n16) rfl ?_
     obtain ⟨y38, h39, H⟩ := obx H
     refine g rfl (o_iaV (r := tBool) tsl140 rfl rfl S 0 rfl h31 rfl h39 fun b40 cs41 cc42 hv43 hr44 hc45 => ?_)
     obtain rfl := hr44
     refine u rfl (x_ld tsc4 rfl (S.loadV 0 rfl hv43 (hc45 0 _ rfl))) ?_
     have S := mx_back0 S hp30
     by_cases cc46 : y38 = true
     ·rw [if_pos cc46] at H
      refine cT rfl cc46 <| sq <| FW.anew [] trivial fun σ => rg <| mv (.bool true) rfl <| rt ?_
      obtain rfl := si H
      obtain rfl := si HO20
      obtain rfl := si HO10
      exact ⟨_, ⟨_, rfl, rfl⟩, ⟨rfl, ((S.sel 2 [] rfl).weaken hI)⟩⟩
     rw [if_neg cc46] at H
     refine cF rfl (vaF cc46) <| sk <| FW.anew [(7, vy1_0), (8, .int .i64 n6), (9, .int .i64 n16)] ⟨rfl, rfl, rfl, trivial⟩ fun σ => rg <| mv (.int .i64 n16) rfl <| u rfl (x_bin rfl rfl rfl) <| mv (.int .i64 (i64 (n16 + 1))) rfl ⟨q17, Nat.le_refl _, (i64 (n16 + 1)), J15, H, (Nat.le_of_succ_le hq23), ⟨rfl, rfl, rfl, trivial⟩, hL18, (S.sel 2 [1, 0] rfl)⟩
    rw [if_neg cc24] at H
    refine cF rfl (deF cc24) <| ex ⟨J15, (si H), ⟨rfl, rfl, trivial⟩, hL18, S⟩
   rintro σ w ⟨J22, ho, hσ, hL18, S⟩
   subst ho
   have H := HO20
   try dsimp only at H
   have hL8 := hL8.trans hL18
   rw [hσ.eq]
   refine rg <| mv (.int .i64 n6) rfl <| u rfl (x_bin rfl rfl rfl) <| mv (.int .i64 (i64 (n6 + 1))) rfl ⟨q7, Nat.le_refl _, (i64 (n6 + 1)), J22, H, (Nat.le_of_succ_le hq13), ⟨rfl, rfl, trivial⟩, hL8, S⟩
  rw [if_neg cc14] at H
  refine cF rfl (deF cc14) <| ex ⟨J5, (si H), trivial, hL8, (S.sel 2 [] rfl)⟩
 rintro σ w ⟨J12, ho, hσ, hL8, S⟩
 subst ho
 have H := HO10
 try dsimp only at H
 have hI := hI.trans hL8
 rw [hσ.eq]
 refine sr <| mv (.bool false) rfl <| rt ?_
 obtain rfl := si H
 exact ⟨_, ⟨_, rfl, rfl⟩, ⟨rfl, (S.weaken hI)⟩⟩
def r12_Has.l0 : Nat → (List Int) → Int → Int → Option (Sum Bool Unit)
  | 0, _, _, _ => none
  | k + 1, x0, x1, n2 => (if n2 < (x0.length : Int) then ((lat x0 n2).bind fun y11 => (if y11 = x1 then (some (.inl true)) else (r12_Has.l0 k x0 x1 (i64 (n2 + 1))))) else (some (.inr ())))
def r12_Has.f (k : Nat) (x0 : (List Int)) (x1 : Int) : Option Bool := (((r12_Has.l0 k x0 x1 0) : Option (Sum Bool Unit)).bind fun o => match o with | .inl r => some r | .inr _ => (some false))
abbrev r12_Has.C (k : Nat) : Prop := ∀ {x0 : (List Int)} {x1 : Int} {vx0 : Value} {F : List It} {I : IMem} {w : World} {r : Bool}, Glob I → Own I w (F) → SlR (tInt' .u32) I vx0 x0 → r12_Has.f k x0 x1 = some r →
    Calls Tryz.prog 68 #[vx0, .int .u32 x1] w fun e w' => ∃ v, e = .returned v ∧ v = .bool r ∧ Own I w' (F)
theorem r12_Has.ok (k : Nat) : r12_Has.C k := by
 intro x0 x1 vx0 F I w r hG S hx0 H
 have hI := ilr I
 rw [r12_Has.f] at H
 refine Calls.ofFW (args := [vx0, .int .u32 x1]) Tryz.func68 rfl rfl <| sr <| mv (.bool false) rfl <| sq <| sr <| mv (.int .i64 0) rfl <| bk ?_
 obtain ⟨o5, hl7, HO6⟩ := obx H
 refine FW.cutX 0 (fun σ w => ∃ (J8 : IMem), (.inr ()) = o5 ∧ Has σ [] ∧ I.le J8 ∧ Own J8 w (F)) ?_ ?_
 ·refine FW.loop k (FL.ind (fun q σ w => ∃ (n2 : Int) (J1 : IMem), r12_Has.l0 q x0 x1 n2 = some o5 ∧ q ≤ k ∧ Has σ [(0, vx0), (1, .int .u32 x1), (5, .int .i64 n2)] ∧ I.le J1 ∧ Own J1 w (F)) ?_ ?_ k k _ _ (Nat.le_refl _) ⟨0, I, hl7, Nat.le_refl _, ⟨rfl, rfl, rfl, trivial⟩, (ilr _), S⟩)
  ·rintro σ w ⟨n2, J1, H, _⟩; cases H
  rintro q3 σ w ⟨n2, J1, H, hq9, hσ, hL4, S⟩
  have hx0 := hx0.mono hL4
  have hI := hI.trans hL4
  rw [hσ.eq]
  rw [r12_Has.l0] at H
  refine sq <| sr <| mv (.int .i64 n2) rfl <| mv vx0 rfl <| u rfl (x_lenD (r := (tInt' .u32)) tsl25 hx0) <| u rfl (x_bin rfl rfl rfl) ?_
  by_cases cc10 : n2 < (x0.length : Int)
  ·rw [if_pos cc10] at H
   refine cT rfl (deT cc10) <| sk <| sq <| bk <| sr <| mv vx0 rfl <| mv (.int .i64 n2) rfl ?_
   obtain ⟨y11, h12, H⟩ := obx H
   refine g rfl (o_ia (r := (tInt' .u32)) tsl25 rfl rfl hx0 rfl h12 fun b13 o14 cs15 hr16 hc17 => ?_)
   obtain rfl := hr16
   refine u rfl (x_ld tsc23 rfl (S.cell _ _ _ (hc17 0 _ rfl))) <| mv (.int .u32 x1) rfl <| u rfl (x_bin rfl rfl rfl) ?_
   by_cases cc18 : y11 = x1
   ·rw [if_pos cc18] at H
    refine cT rfl (eqT cc18) <| sq <| FW.anew [] trivial fun σ => rg <| mv (.bool true) rfl <| rt ?_
    obtain rfl := si H
    obtain rfl := si HO6
    exact ⟨_, ⟨_, rfl, rfl⟩, ⟨rfl, (S.weaken hI)⟩⟩
   rw [if_neg cc18] at H
   refine cF rfl (eqF cc18) <| sk <| FW.anew [(0, vx0), (1, .int .u32 x1), (5, .int .i64 n2)] ⟨rfl, rfl, rfl, trivial⟩ fun σ => rg <| mv (.int .i64 n2) rfl <| u rfl (x_bin rfl rfl rfl) <| mv (.int .i64 (i64 (n2 + 1))) rfl ⟨q3, Nat.le_refl _, (i64 (n2 + 1)), J1, H, (Nat.le_of_succ_le hq9), ⟨rfl, rfl, rfl, trivial⟩, hL4, S⟩
  rw [if_neg cc10] at H
  refine cF rfl (deF cc10) <| ex ⟨J1, (si H), trivial, hL4, S⟩
 rintro σ w ⟨J8, ho, hσ, hL4, S⟩
 subst ho
 have H := HO6
 try dsimp only at H
 have hI := hI.trans hL4
 rw [hσ.eq]
 refine sr <| mv (.bool false) rfl <| rt ?_
 obtain rfl := si H
 exact ⟨_, ⟨_, rfl, rfl⟩, ⟨rfl, (S.weaken hI)⟩⟩
def r12_All.l0 : Nat → (List Int) → (List Int) → Int → Option (Sum Bool Unit)
  | 0, _, _, _ => none
  | k + 1, x0, x1, n2 => (if n2 < (x1.length : Int) then ((lat x1 n2).bind fun y11 => ((r12_Has.f k x0 y11).bind fun y18 => (if y18 = true then (r12_All.l0 k x0 x1 (i64 (n2 + 1))) else (some (.inl false))))) else (some (.inr ())))
def r12_All.f (k : Nat) (x0 : (List Int)) (x1 : (List Int)) : Option Bool := (((r12_All.l0 k x0 x1 0) : Option (Sum Bool Unit)).bind fun o => match o with | .inl r => some r | .inr _ => (some true))
abbrev r12_All.C (k : Nat) : Prop := ∀ {x0 : (List Int)} {x1 : (List Int)} {vx0 : Value} {vx1 : Value} {F : List It} {I : IMem} {w : World} {r : Bool}, Glob I → Own I w (F) → SlR (tInt' .u32) I vx0 x0 → SlR (tInt' .u32) I vx1 x1 → r12_All.f k x0 x1 = some r →
    Calls Tryz.prog 56 #[vx0, vx1] w fun e w' => ∃ v, e = .returned v ∧ v = .bool r ∧ Own I w' (F)
theorem r12_All.ok (k : Nat) : r12_All.C k := by
 intro x0 x1 vx0 vx1 F I w r hG S hx0 hx1 H
 have hI := ilr I
 rw [r12_All.f] at H
 refine Calls.ofFW (args := [vx0, vx1]) Tryz.func56 rfl rfl <| sr <| mv (.bool false) rfl <| sq <| sr <| mv (.int .i64 0) rfl <| bk ?_
 obtain ⟨o5, hl7, HO6⟩ := obx H
 refine FW.cutX 0 (fun σ w => ∃ (J8 : IMem), (.inr ()) = o5 ∧ Has σ [] ∧ I.le J8 ∧ Own J8 w (F)) ?_ ?_
 ·refine FW.loop k (FL.ind (fun q σ w => ∃ (n2 : Int) (J1 : IMem), r12_All.l0 q x0 x1 n2 = some o5 ∧ q ≤ k ∧ Has σ [(0, vx0), (1, vx1), (5, .int .i64 n2)] ∧ I.le J1 ∧ Own J1 w (F)) ?_ ?_ k k _ _ (Nat.le_refl _) ⟨0, I, hl7, Nat.le_refl _, ⟨rfl, rfl, rfl, trivial⟩, (ilr _), S⟩)
  ·rintro σ w ⟨n2, J1, H, _⟩; cases H
  rintro q3 σ w ⟨n2, J1, H, hq9, hσ, hL4, S⟩
  have hx0 := hx0.mono hL4
  have hx1 := hx1.mono hL4
  have hI := hI.trans hL4
  have hG := hG.mono hL4
  rw [hσ.eq]
  rw [r12_All.l0] at H
  refine sq <| sr <| mv (.int .i64 n2) rfl <| mv vx1 rfl <| u rfl (x_lenD (r := (tInt' .u32)) tsl25 hx1) <| u rfl (x_bin rfl rfl rfl) ?_
  by_cases cc10 : n2 < (x1.length : Int)
  ·rw [if_pos cc10] at H
   refine cT rfl (deT cc10) <| sk <| sq <| bk <| sr <| mv vx0 rfl <| mv vx1 rfl <| mv (.int .i64 n2) rfl ?_
   obtain ⟨y11, h12, H⟩ := obx H
   refine g rfl (o_ia (r := (tInt' .u32)) tsl25 rfl rfl hx1 rfl h12 fun b13 o14 cs15 hr16 hc17 => ?_)
   obtain rfl := hr16
   refine u rfl (x_ld tsc23 rfl (S.cell _ _ _ (hc17 0 _ rfl))) ?_
   obtain ⟨y18, hy19, H⟩ := obx H
   refine g rfl (cl fb68 (@r12_Has.ok q3 x0 y11 _ _ _ _ _ hG S hx0 hy19) rfl ?_)
   rintro _ w ⟨rfl, S⟩
   refine u rfl (x_not' rfl) ?_
   by_cases cc20 : y18 = true
   ·rw [if_pos cc20] at H
    refine cF rfl (noF cc20) <| sk <| FW.anew [(0, vx0), (1, vx1), (5, .int .i64 n2)] ⟨rfl, rfl, rfl, trivial⟩ fun σ => rg <| mv (.int .i64 n2) rfl <| u rfl (x_bin rfl rfl rfl) <| mv (.int .i64 (i64 (n2 + 1))) rfl ⟨q3, Nat.le_refl _, (i64 (n2 + 1)), J1, H, (Nat.le_of_succ_le hq9), ⟨rfl, rfl, rfl, trivial⟩, hL4, S⟩
   rw [if_neg cc20] at H
   refine cT rfl (noT (vaF cc20)) <| sq <| FW.anew [] trivial fun σ => rg <| mv (.bool false) rfl <| rt ?_
   obtain rfl := si H
   obtain rfl := si HO6
   exact ⟨_, ⟨_, rfl, rfl⟩, ⟨rfl, (S.weaken hI)⟩⟩
  rw [if_neg cc10] at H
  refine cF rfl (deF cc10) <| ex ⟨J1, (si H), trivial, hL4, S⟩
 rintro σ w ⟨J8, ho, hσ, hL4, S⟩
 subst ho
 have H := HO6
 try dsimp only at H
 have hI := hI.trans hL4
 rw [hσ.eq]
 refine sr <| mv (.bool true) rfl <| rt ?_
 obtain rfl := si H
 exact ⟨_, ⟨_, rfl, rfl⟩, ⟨rfl, (S.weaken hI)⟩⟩
def r03_Count.l0 : Nat → (List T_api_Segment) → Int → Int → Option Int
  | 0, _, _, _ => none
  | k + 1, x0, n2, n3 => (if n3 < (x0.length : Int) then ((lat x0 n3).bind fun y13 => (if y13.Kind = 1 then (r03_Count.l0 k x0 (i64 (n2 + 1)) (i64 (n3 + 1))) else ((lat x0 n3).bind fun y21 => (r03_Count.l0 k x0 (i64 (n2 + (y21.AS.length : Int))) (i64 (n3 + 1)))))) else (some n2))
def r03_Count.f (k : Nat) (x0 : (List T_api_Segment)) : Option Int := ((r03_Count.l0 k x0 0 0).bind fun n10 => (some n10))
abbrev r03_Count.C (k : Nat) : Prop := ∀ {x0 : (List T_api_Segment)} {vx0 : Value} {F : List It} {I : IMem} {w : World} {r : Int}, Glob I → Own I w (F) → SlR R_api_Segment I vx0 x0 → r03_Count.f k x0 = some r →
    Calls Tryz.prog 57 #[vx0] w fun e w' => ∃ v, e = .returned v ∧ v = .int .i64 r ∧ Own I w' (F)
theorem r03_Count.ok (k : Nat) : r03_Count.C k := by
 intro x0 vx0 F I w r hG S hx0 H
 have hI := ilr I
 rw [r03_Count.f] at H
 refine Calls.ofFW (args := [vx0]) Tryz.func57 rfl rfl <| sr <| mv (.int .i64 0) rfl <| sr <| mv (.int .i64 0) rfl <| sq <| sr <| mv (.int .i64 0) rfl <| bk ?_
 obtain ⟨o6, hl8, HO7⟩ := obx H
 refine FW.cutX 0 (fun σ w => ∃ (n10 : Int) (J9 : IMem), n10 = o6 ∧ Has σ [(3, .int .i64 n10)] ∧ I.le J9 ∧ Own J9 w (F)) ?_ ?_
 ·refine FW.loop k (FL.ind (fun q σ w => ∃ (n2 : Int) (n3 : Int) (J1 : IMem), r03_Count.l0 q x0 n2 n3 = some o6 ∧ q ≤ k ∧ Has σ [(0, vx0), (3, .int .i64 n2), (4, .int .i64 n3)] ∧ I.le J1 ∧ Own J1 w (F)) ?_ ?_ k k _ _ (Nat.le_refl _) ⟨0, 0, I, hl8, Nat.le_refl _, ⟨rfl, rfl, rfl, trivial⟩, (ilr _), S⟩)
  ·rintro σ w ⟨n2, n3, J1, H, _⟩; cases H
  rintro q4 σ w ⟨n2, n3, J1, H, hq11, hσ, hL5, S⟩
  have hx0 := hx0.mono hL5
  rw [hσ.eq]
  rw [r03_Count.l0] at H
  refine sq <| sr <| mv (.int .i64 n3) rfl <| mv vx0 rfl <| u rfl (x_lenD (r := R_api_Segment) tsl37 hx0) <| u rfl (x_bin rfl rfl rfl) ?_
  by_cases cc12 : n3 < (x0.length : Int)
  ·rw [if_pos cc12] at H
   refine cT rfl (deT cc12) <| sk <| sq <| bk <| sr <| mv vx0 rfl <| mv (.int .i64 n3) rfl ?_
   obtain ⟨y13, h14, H⟩ := obx H
   refine g rfl (o_ia (r := R_api_Segment) tsl37 rfl rfl hx0 rfl h14 fun b15 o16 cs17 hr18 hc19 => ?_)
   obtain ⟨y13v1, rfl, y13h1⟩ := hr18
   refine u rfl (x_fa tf88_0 rfl) <| u rfl (x_ld tsc3 rfl (S.cell _ _ _ (hc19 0 _ rfl))) <| u rfl (x_bin rfl rfl rfl) ?_
   by_cases cc20 : y13.Kind = 1
   ·rw [if_pos cc20] at H
    refine cT rfl (eqT cc20) <| FW.anew [(0, vx0), (3, .int .i64 n2), (4, .int .i64 n3)] ⟨rfl, rfl, rfl, trivial⟩ fun σ => rg <| mv (.int .i64 n2) rfl <| u rfl (x_bin rfl rfl rfl) <| mv (.int .i64 (i64 (n2 + 1))) rfl <| rg <| mv (.int .i64 n3) rfl <| u rfl (x_bin rfl rfl rfl) <| mv (.int .i64 (i64 (n3 + 1))) rfl ⟨q4, Nat.le_refl _, (i64 (n2 + 1)), (i64 (n3 + 1)), J1, H, (Nat.le_of_succ_le hq11), ⟨rfl, rfl, rfl, trivial⟩, hL5, S⟩
   rw [if_neg cc20] at H
   refine cF rfl (eqF cc20) <| FW.anew [(0, vx0), (3, .int .i64 n2), (4, .int .i64 n3)] ⟨rfl, rfl, rfl, trivial⟩ fun σ => rg <| mv (.int .i64 n2) rfl <| mv vx0 rfl <| mv (.int .i64 n3) rfl ?_
   obtain ⟨y21, h22, H⟩ := obx H
   refine g rfl (o_ia (r := R_api_Segment) tsl37 rfl rfl hx0 rfl h22 fun b23 o24 cs25 hr26 hc27 => ?_)
   obtain ⟨y21v1, rfl, y21h1⟩ := hr26
   refine u rfl (x_fa tf88_1 rfl) <| u rfl (x_ld tsc25 rfl (S.cell _ _ _ (hc27 1 _ rfl))) <| u rfl (x_lenD (r := (tInt' .u32)) tsl25 y21h1) <| u rfl (x_bin rfl rfl rfl) <| mv (.int .i64 (i64 (n2 + (y21.AS.length : Int)))) rfl <| FW.anew [(0, vx0), (3, .int .i64 (i64 (n2 + (y21.AS.length : Int)))), (4, .int .i64 n3)] ⟨rfl, rfl, rfl, trivial⟩ fun σ => rg <| mv (.int .i64 n3) rfl <| u rfl (x_bin rfl rfl rfl) <| mv (.int .i64 (i64 (n3 + 1))) rfl ⟨q4, Nat.le_refl _, (i64 (n2 + (y21.AS.length : Int))), (i64 (n3 + 1)), J1, H, (Nat.le_of_succ_le hq11), ⟨rfl, rfl, rfl, trivial⟩, hL5, S⟩
  rw [if_neg cc12] at H
  refine cF rfl (deF cc12) <| ex ⟨n2, J1, (si H), ⟨rfl, trivial⟩, hL5, S⟩
 rintro σ w ⟨n10, J9, ho, hσ, hL5, S⟩
 subst ho
 have H := HO7
 have hI := hI.trans hL5
 rw [hσ.eq]
 refine sr <| mv (.int .i64 n10) rfl <| mv (.int .i64 n10) rfl <| rt ?_
 obtain rfl := si H
 exact ⟨_, ⟨_, rfl, rfl⟩, ⟨rfl, (S.weaken hI)⟩⟩
def r14_Holds.f (k : Nat) (x0 : T_api_Cond) (x1 : T_api_Prefix) (x2 : T_api_Attrs) : Option Bool := (if x0.Kind = 0 then (some (!(true == x0.Not))) else (if x0.Kind = 1 then ((r12_Any.f k x0.Range x1).bind fun y6 => (some (!(y6 == x0.Not)))) else (if x0.Kind = 2 then ((r11_Parse.f k x0.Text).bind fun y9 => (if y9.2.2 = 0 then ((r03_Flat.f k x2.Path).bind fun y14 => ((r11_P_Match.f k y9.1 y9.2.1 y14).bind fun y18 => (some (!(y18 == x0.Not))))) else (some (!(false == x0.Not))))) else (if x0.Kind = 3 then ((r12_All.f k x2.Comms x0.Comms).bind fun y21 => (some (!(y21 == x0.Not)))) else (if x0.Kind = 4 then ((r03_Count.f k x2.Path).bind fun y25 => (some (!((decide (y25 > x0.Num)) == x0.Not)))) else (if x0.Kind = 5 then (some (!((x2.Next == x0.Addr) == x0.Not))) else (if x0.Kind = 6 then (some (!((x2.Origin == x0.Num) == x0.Not))) else (some (!(false == x0.Not))))))))))
abbrev r14_Holds.C (k : Nat) : Prop := ∀ {x0 : T_api_Cond} {x1 : T_api_Prefix} {x2 : T_api_Attrs} {x0v5 : Value} {x0v6 : Value} {x2v1 : Value} {x2v9 : Value} {x2v10 : Value} {F : List It} {I : IMem} {w : World} {r : Bool}, Glob I → Own I w (F) → SlR R_api_Range I x0v5 x0.Range → SlR (tInt' .u32) I x0v6 x0.Comms → SlR R_api_Segment I x2v1 x2.Path → SlR (tInt' .u32) I x2v9 x2.Comms → SlR R_api_Raw I x2v10 x2.Raws → r14_Holds.f k x0 x1 x2 = some r →
    Calls Tryz.prog 21 #[.agg #[.int .i64 x0.Kind, .bool x0.Not, .int .i64 x0.Num, .int .u32 x0.Addr, .string x0.Text, x0v5, x0v6], .agg #[.int .u32 x1.Addr, .int .i64 x1.Len], .agg #[.int .i64 x2.Origin, x2v1, .int .u32 x2.Next, .int .i64 x2.Med, .int .i64 x2.Pref, .bool x2.Atomic, .bool x2.HasAggr, .int .u32 x2.AggrAS, .int .u32 x2.AggrAddr, x2v9, x2v10]] w fun e w' => ∃ v, e = .returned v ∧ v = .bool r ∧ Own I w' (F)
theorem r14_Holds.ok (k : Nat) : r14_Holds.C k := by
 intro x0 x1 x2 x0v5 x0v6 x2v1 x2v9 x2v10 F I w r hG S x0h5 x0h6 x2h1 x2h9 x2h10 H
 have hI := ilr I
 rw [r14_Holds.f] at H
 refine Calls.ofFW (args := [.agg #[.int .i64 x0.Kind, .bool x0.Not, .int .i64 x0.Num, .int .u32 x0.Addr, .string x0.Text, x0v5, x0v6], .agg #[.int .u32 x1.Addr, .int .i64 x1.Len], .agg #[.int .i64 x2.Origin, x2v1, .int .u32 x2.Next, .int .i64 x2.Med, .int .i64 x2.Pref, .bool x2.Atomic, .bool x2.HasAggr, .int .u32 x2.AggrAS, .int .u32 x2.AggrAddr, x2v9, x2v10]]) Tryz.func21 rfl rfl <| sr <| g rfl (o_boxA rfl S fun b1 w S => g rfl (o_boxA rfl S fun b2 w S => g rfl (o_boxA rfl S fun b3 w S => mv (.bool false) rfl (sq (rg (mv (.bool false) rfl (sq (sq (rg (u rfl (x_fa tf27_0 rfl) (u rfl (x_ld tsc3 rfl (S.load 2 rfl 0 rfl)) (bk (sq (FW.anew [(3, pt b1), (4, pt b2), (5, pt b3), (7, .bool false), (12, .int .i64 x0.Kind)] ⟨rfl, rfl, rfl, rfl, rfl, trivial⟩ fun σ => rg (u rfl (x_bin rfl rfl rfl) (mv (.bool (x0.Kind == 0)) rfl ?_))))))))))))))))
 by_cases cc4 : x0.Kind = 0
 ·rw [if_pos cc4] at H
  refine cT rfl (eqT cc4) <| rg <| mv (.bool true) rfl <| sr <| mv (.bool true) rfl <| u rfl (x_fa tf27_1 rfl) <| u rfl (x_ld tsc4 rfl (S.load 2 rfl 1 rfl)) <| u rfl (x_bne tbool4 rfl rfl) <| mv (.bool (!(true == x0.Not))) rfl <| rt ?_
  obtain rfl := si H
  exact ⟨_, ⟨_, rfl, rfl⟩, ⟨rfl, ((S.sel 3 [] rfl).weaken hI)⟩⟩
 rw [if_neg cc4] at H
 refine cF rfl (eqF cc4) <| sr <| u rfl (x_bin rfl rfl rfl) <| mv (.bool (x0.Kind == 1)) rfl ?_
 by_cases cc5 : x0.Kind = 1
 ·rw [if_pos cc5] at H
  refine cT rfl (eqT cc5) <| rg <| u rfl (x_fa tf27_5 rfl) <| u rfl (x_ld tsc24 rfl (S.load 2 rfl 5 rfl)) <| u rfl (x_ldA tag36 rfl (S.loadW 1 rfl) rfl) ?_
  obtain ⟨y6, hy7, H⟩ := obx H
  refine g rfl (cl fb54 (@r12_Any.ok k x0.Range x1 _ _ _ _ _ hG S x0h5 hy7) rfl ?_)
  rintro _ w ⟨rfl, S⟩
  refine mv (.bool y6) rfl <| sq <| FW.anew [(3, pt b1), (7, .bool y6)] ⟨rfl, rfl, trivial⟩ fun σ => rg <| mv (.bool y6) rfl <| u rfl (x_fa tf27_1 rfl) <| u rfl (x_ld tsc4 rfl (S.load 2 rfl 1 rfl)) <| u rfl (x_bne tbool4 rfl rfl) <| mv (.bool (!(y6 == x0.Not))) rfl <| rt ?_
  obtain rfl := si H
  exact ⟨_, ⟨_, rfl, rfl⟩, ⟨rfl, ((S.sel 3 [] rfl).weaken hI)⟩⟩
 rw [if_neg cc5] at H
 refine cF rfl (eqF cc5) <| sr <| u rfl (x_bin rfl rfl rfl) <| mv (.bool (x0.Kind == 2)) rfl ?_
 by_cases cc8 : x0.Kind = 2
 ·rw [if_pos cc8] at H
  refine cT rfl (eqT cc8) <| sr <| u rfl (x_fa tf27_4 rfl) <| u rfl (x_ld tsc9 rfl (S.load 2 rfl 4 rfl)) ?_
  obtain ⟨y9, hy10, H⟩ := obx H
  refine g rfl (cl fb45 (@r11_Parse.ok k x0.Text _ _ _ _ hG S hy10) rfl ?_)
  rintro _ w ⟨vy9_0, J11, hJ12, rfl, hy9_0, S⟩
  have x2h1 := x2h1.mono hJ12
  have hI := hI.trans hJ12
  have hG := hG.mono hJ12
  refine mv (.tuple #[vy9_0, .int .i64 y9.2.1, .int .i64 y9.2.2]) rfl <| u rfl (x_ext rfl rfl) <| u rfl (x_ext rfl rfl) <| u rfl (x_ext rfl rfl) <| mv vy9_0 rfl <| mv (.int .i64 y9.2.1) rfl <| mv (.int .i64 y9.2.2) rfl <| FW.anew [(3, pt b1), (5, pt b3), (8, vy9_0), (9, .int .i64 y9.2.1), (10, .int .i64 y9.2.2)] ⟨rfl, rfl, rfl, rfl, rfl, trivial⟩ fun σ => rg <| mv (.int .i64 y9.2.2) rfl <| u rfl (x_bin rfl rfl rfl) <| mv (.bool (y9.2.2 == 0)) rfl ?_
  by_cases cc13 : y9.2.2 = 0
  ·rw [if_pos cc13] at H
   refine gu rfl rfl rfl (eqT cc13) (x_movV (v := vy9_0) rfl) <| gu rfl rfl rfl (eqT cc13) (x_movV (v := .int .i64 y9.2.1) rfl) <| gu rfl rfl rfl (eqT cc13) (x_fa tf40_1 rfl) <| gu rfl rfl rfl (eqT cc13) (x_ld tsc37 rfl (S.load 0 rfl 1 rfl)) ?_
   obtain ⟨y14, hy15, H⟩ := obx H
   refine OK.gt rfl rfl rfl (eqT cc13) (cl fb19 (@r03_Flat.ok k x2.Path _ _ _ _ _ hG S x2h1 hy15) rfl ?_)
   rintro vy14_0 w ⟨vy14_0q, J16, hJ17, rfl, hy14_0, S⟩
   have hy9_0 := hy9_0.mono hJ17
   have hI := hI.trans hJ17
   have hG := hG.mono hJ17
   obtain ⟨y18, hy19, H⟩ := obx H
   refine OK.gt rfl rfl rfl (eqT cc13) (cl fb55 (@r11_P_Match.ok k y9.1 y9.2.1 y14 _ _ _ _ _ _ hG S hy9_0 hy14_0 hy19) rfl ?_)
   rintro _ w ⟨rfl, S⟩
   refine u rfl (x_pickTV (v := .bool y18) rfl (eqT cc13) rfl) <| mv (.bool y18) rfl <| sq <| FW.anew [(3, pt b1), (7, .bool y18)] ⟨rfl, rfl, trivial⟩ fun σ => rg <| mv (.bool y18) rfl <| u rfl (x_fa tf27_1 rfl) <| u rfl (x_ld tsc4 rfl (S.load 3 rfl 1 rfl)) <| u rfl (x_bne tbool4 rfl rfl) <| mv (.bool (!(y18 == x0.Not))) rfl <| rt ?_
   obtain rfl := si H
   exact ⟨_, ⟨_, rfl, rfl⟩, ⟨rfl, ((S.sel 4 [] rfl).weaken hI)⟩⟩
  rw [if_neg cc13] at H
  refine gn rfl rfl rfl (eqF cc13) <| gn rfl rfl rfl (eqF cc13) <| gn rfl rfl rfl (eqF cc13) <| gn rfl rfl rfl (eqF cc13) <| gn rfl rfl rfl (eqF cc13) <| gn rfl rfl rfl (eqF cc13) <| u rfl (x_pickFV (v := .bool false) rfl (eqF cc13) rfl) <| mv (.bool false) rfl <| sr <| mv (.bool false) rfl <| u rfl (x_fa tf27_1 rfl) <| u rfl (x_ld tsc4 rfl (S.load 2 rfl 1 rfl)) <| u rfl (x_bne tbool4 rfl rfl) <| mv (.bool (!(false == x0.Not))) rfl <| rt ?_
  obtain rfl := si H
  exact ⟨_, ⟨_, rfl, rfl⟩, ⟨rfl, ((S.sel 3 [] rfl).weaken hI)⟩⟩
 rw [if_neg cc8] at H
 refine cF rfl (eqF cc8) <| sr <| u rfl (x_bin rfl rfl rfl) <| mv (.bool (x0.Kind == 3)) rfl ?_
 by_cases cc20 : x0.Kind = 3
 ·rw [if_pos cc20] at H
  refine cT rfl (eqT cc20) <| FW.anew [(3, pt b1), (5, pt b3)] ⟨rfl, rfl, trivial⟩ fun σ => rg <| u rfl (x_fa tf40_9 rfl) <| u rfl (x_ld tsc25 rfl (S.load 0 rfl 9 rfl)) <| u rfl (x_fa tf27_6 rfl) <| u rfl (x_ld tsc25 rfl (S.load 2 rfl 6 rfl)) ?_
  obtain ⟨y21, hy22, H⟩ := obx H
  refine g rfl (cl fb56 (@r12_All.ok k x2.Comms x0.Comms _ _ _ _ _ _ hG S x2h9 x0h6 hy22) rfl ?_)
  rintro _ w ⟨rfl, S⟩
  refine mv (.bool y21) rfl <| sr <| mv (.bool y21) rfl <| u rfl (x_fa tf27_1 rfl) <| u rfl (x_ld tsc4 rfl (S.load 2 rfl 1 rfl)) <| u rfl (x_bne tbool4 rfl rfl) <| mv (.bool (!(y21 == x0.Not))) rfl <| rt ?_
  obtain rfl := si H
  exact ⟨_, ⟨_, rfl, rfl⟩, ⟨rfl, ((S.sel 3 [] rfl).weaken hI)⟩⟩
 rw [if_neg cc20] at H
 refine cF rfl (eqF cc20) <| sq <| FW.anew [(3, pt b1), (5, pt b3), (7, .bool false), (12, .int .i64 x0.Kind)] ⟨rfl, rfl, rfl, rfl, trivial⟩ fun σ => rg <| u rfl (x_bin rfl rfl rfl) <| mv (.bool (x0.Kind == 4)) rfl ?_
 by_cases cc23 : x0.Kind = 4
 ·rw [if_pos cc23] at H
  refine cT rfl (eqT cc23) ?_
  have S := S.drew
  refine FW.regionD mixed ?_
  have hO := Hold.nil (w := { w with drawn := w.drawn + 1 })
  refine ap 0 rfl (by kernel_rfl) hO (fun w => x_fa tf40_1 rfl) ?_
  have hR24 := ilr I
  refine ak (Stab I [.bk b3 40 [.int .i64 x2.Origin, x2v1, .int .u32 x2.Next, .int .i64 x2.Med, .int .i64 x2.Pref, .bool x2.Atomic, .bool x2.HasAggr, .int .u32 x2.AggrAS, .int .u32 x2.AggrAddr, x2v9, x2v10]]) 1 rfl (by kernel_rfl) hO (Stab.of S 0 rfl hR24) (fun w hS => x_ld tsc37 rfl (hS.load 0 rfl 1 rfl)) fun hO => ap 3 rfl (by kernel_rfl) hO (fun w => x_fa tf27_2 rfl) <| ak (Stab I [.bk b1 27 [.int .i64 x0.Kind, .bool x0.Not, .int .i64 x0.Num, .int .u32 x0.Addr, .string x0.Text, x0v5, x0v6]]) 4 rfl (by kernel_rfl) hO (Stab.of S 2 rfl hR24) (fun w hS => x_ld tsc3 rfl (hS.load 0 rfl 2 rfl)) fun hO => AQ.one 2 [4, 1] [true, false] (by kernel_rfl) rfl (by kernel_rfl) ?_
  obtain ⟨y25, hy26, H⟩ := obx H
  refine g rfl (cl fb57 (@r03_Count.ok k x2.Path _ _ _ _ _ hG S x2h1 hy26) rfl ?_)
  rintro _ w ⟨rfl, S⟩
  refine andI (Hold.cons (Stab.of S 2 rfl hR24) Hold.nil) fun hO => ap 5 rfl (by kernel_rfl) hO (fun w => x_bin rfl rfl rfl) <| ap 6 rfl (by kernel_rfl) hO (fun w => x_asgV (v := .bool (decide (y25 > x0.Num))) rfl) <| AQ.done (by kernel_rfl) <| sq <| FW.anew [(3, pt b1), (7, .bool (decide (y25 > x0.Num)))] ⟨rfl, rfl, trivial⟩ fun σ => rg <| mv (.bool (decide (y25 > x0.Num))) rfl <| u rfl (x_fa tf27_1 rfl) <| u rfl (x_ld tsc4 rfl (S.load 2 rfl 1 rfl)) <| u rfl (x_bne tbool4 rfl rfl) <| mv (.bool (!((decide (y25 > x0.Num)) == x0.Not))) rfl <| rt ?_
  obtain rfl := si H
  exact ⟨_, ⟨_, rfl, rfl⟩, ⟨rfl, ((S.sel 3 [] rfl).weaken hI)⟩⟩
 rw [if_neg cc23] at H
 refine cF rfl (eqF cc23) <| sr <| u rfl (x_bin rfl rfl rfl) <| mv (.bool (x0.Kind == 5)) rfl ?_
 by_cases cc27 : x0.Kind = 5
 ·rw [if_pos cc27] at H
  refine cT rfl (eqT cc27) <| rg <| u rfl (x_fa tf40_2 rfl) <| u rfl (x_ld tsc23 rfl (S.load 0 rfl 2 rfl)) <| u rfl (x_fa tf27_3 rfl) <| u rfl (x_ld tsc23 rfl (S.load 2 rfl 3 rfl)) <| u rfl (x_bin rfl rfl rfl) <| mv (.bool (x2.Next == x0.Addr)) rfl <| sq <| FW.anew [(3, pt b1), (7, .bool (x2.Next == x0.Addr))] ⟨rfl, rfl, trivial⟩ fun σ => rg <| mv (.bool (x2.Next == x0.Addr)) rfl <| u rfl (x_fa tf27_1 rfl) <| u rfl (x_ld tsc4 rfl (S.load 2 rfl 1 rfl)) <| u rfl (x_bne tbool4 rfl rfl) <| mv (.bool (!((x2.Next == x0.Addr) == x0.Not))) rfl <| rt ?_
  obtain rfl := si H
  exact ⟨_, ⟨_, rfl, rfl⟩, ⟨rfl, ((S.sel 3 [] rfl).weaken hI)⟩⟩
 rw [if_neg cc27] at H
 refine cF rfl (eqF cc27) <| sr <| u rfl (x_bin rfl rfl rfl) <| mv (.bool (x0.Kind == 6)) rfl ?_
 by_cases cc28 : x0.Kind = 6
 ·rw [if_pos cc28] at H
  refine cT rfl (eqT cc28) <| rg <| u rfl (x_fa tf40_0 rfl) <| u rfl (x_ld tsc3 rfl (S.load 0 rfl 0 rfl)) <| u rfl (x_fa tf27_2 rfl) <| u rfl (x_ld tsc3 rfl (S.load 2 rfl 2 rfl)) <| u rfl (x_bin rfl rfl rfl) <| mv (.bool (x2.Origin == x0.Num)) rfl <| sq <| FW.anew [(3, pt b1), (7, .bool (x2.Origin == x0.Num))] ⟨rfl, rfl, trivial⟩ fun σ => rg <| mv (.bool (x2.Origin == x0.Num)) rfl <| u rfl (x_fa tf27_1 rfl) <| u rfl (x_ld tsc4 rfl (S.load 2 rfl 1 rfl)) <| u rfl (x_bne tbool4 rfl rfl) <| mv (.bool (!((x2.Origin == x0.Num) == x0.Not))) rfl <| rt ?_
  obtain rfl := si H
  exact ⟨_, ⟨_, rfl, rfl⟩, ⟨rfl, ((S.sel 3 [] rfl).weaken hI)⟩⟩
 rw [if_neg cc28] at H
 refine cF rfl (eqF cc28) <| sk <| sr <| mv (.bool false) rfl <| u rfl (x_fa tf27_1 rfl) <| u rfl (x_ld tsc4 rfl (S.load 2 rfl 1 rfl)) <| u rfl (x_bne tbool4 rfl rfl) <| mv (.bool (!(false == x0.Not))) rfl <| rt ?_
 obtain rfl := si H
 exact ⟨_, ⟨_, rfl, rfl⟩, ⟨rfl, ((S.sel 3 [] rfl).weaken hI)⟩⟩
end Go.Proofs.YtafnenafbognkaaGreatDoor
namespace Go.Proofs.YtafnenafbognkaaGreatDoor
open Sp
set_option maxRecDepth 100000
set_option maxHeartbeats 4000000
def w14_PolicyHolds.f (k : Nat) (x0 : T_api_Cond) (x1 : T_api_Prefix) (x2 : T_api_Attrs) : Option Bool := ((w14_FewCond.f k x0).bind fun y4 => (if y4 = true then ((w04_Few.f k x2).bind fun y7 => (if y7 = true then ((r03_Flat.f k x2.Path).bind fun y10 => (if (y10.length : Int) > 70 then ((w14_awake.f k).bind fun y15 => (some y15)) else ((policy_Holds.f k x0 x1 x2).bind fun y19 => ((r14_Holds.f k x0 x1 x2).bind fun y21 => (if y19 = y21 then ((policy_Holds.f k (T_api_Cond.mk x0.Kind (!x0.Not) x0.Num x0.Addr x0.Text x0.Range x0.Comms) x1 x2).bind fun y24 => ((r14_Holds.f k x0 x1 x2).bind fun y26 => (if y24 = (!y26) then ((w14_awake.f k).bind fun y29 => (some y29)) else (some false)))) else (some false)))))) else ((w14_awake.f k).bind fun y31 => (some y31)))) else ((w14_awake.f k).bind fun y33 => (some y33))))
abbrev w14_PolicyHolds.C (k : Nat) : Prop := ∀ {x0 : T_api_Cond} {x1 : T_api_Prefix} {x2 : T_api_Attrs} {x0v5 : Value} {x0v6 : Value} {x2v1 : Value} {x2v9 : Value} {x2v10 : Value} {F : List It} {I : IMem} {w : World} {r : Bool}, Glob I → Own I w (F) → SlR R_api_Range I x0v5 x0.Range → SlR (tInt' .u32) I x0v6 x0.Comms → SlR R_api_Segment I x2v1 x2.Path → SlR (tInt' .u32) I x2v9 x2.Comms → SlR R_api_Raw I x2v10 x2.Raws → w14_PolicyHolds.f k x0 x1 x2 = some r →
    Calls Tryz.prog 4 #[.agg #[.int .i64 x0.Kind, .bool x0.Not, .int .i64 x0.Num, .int .u32 x0.Addr, .string x0.Text, x0v5, x0v6], .agg #[.int .u32 x1.Addr, .int .i64 x1.Len], .agg #[.int .i64 x2.Origin, x2v1, .int .u32 x2.Next, .int .i64 x2.Med, .int .i64 x2.Pref, .bool x2.Atomic, .bool x2.HasAggr, .int .u32 x2.AggrAS, .int .u32 x2.AggrAddr, x2v9, x2v10]] w fun e w' => ∃ v, e = .returned v ∧ v = .bool r ∧ Own I w' (F)
theorem w14_PolicyHolds.ok (k : Nat) : w14_PolicyHolds.C k := by
 intro x0 x1 x2 x0v5 x0v6 x2v1 x2v9 x2v10 F I w r hG S x0h5 x0h6 x2h1 x2h9 x2h10 H
 have hI := ilr I
 rw [w14_PolicyHolds.f] at H
 refine Calls.ofFW (args := [.agg #[.int .i64 x0.Kind, .bool x0.Not, .int .i64 x0.Num, .int .u32 x0.Addr, .string x0.Text, x0v5, x0v6], .agg #[.int .u32 x1.Addr, .int .i64 x1.Len], .agg #[.int .i64 x2.Origin, x2v1, .int .u32 x2.Next, .int .i64 x2.Med, .int .i64 x2.Pref, .bool x2.Atomic, .bool x2.HasAggr, .int .u32 x2.AggrAS, .int .u32 x2.AggrAddr, x2v9, x2v10]]) Tryz.func4 rfl rfl <| sr <| g rfl (o_boxA rfl S fun b1 w S => g rfl (o_boxA rfl S fun b2 w S => g rfl (o_boxA rfl S fun b3 w S => mv (.bool false) rfl (sq (sq (rg (u rfl (x_ldA tag27 rfl (S.loadW 2 rfl) rfl) ?_)))))))
 obtain ⟨y4, hy5, H⟩ := obx H
 refine g rfl (cl fb10 (@w14_FewCond.ok k x0 _ _ _ _ _ _ hG S x0h5 x0h6 hy5) rfl ?_)
 rintro _ w ⟨rfl, S⟩
 refine u rfl (x_not' rfl) <| mv (.bool (!y4)) rfl ?_
 by_cases cc6 : y4 = true
 ·rw [if_pos cc6] at H
  refine gu rfl rfl rfl (noF cc6) (x_ldA tag40 rfl (S.loadW 0 rfl) rfl) ?_
  obtain ⟨y7, hy8, H⟩ := obx H
  refine OK.gt rfl rfl rfl (noF cc6) (cl fb18 (@w04_Few.ok k x2 _ _ _ _ _ _ _ hG S x2h1 x2h9 x2h10 hy8) rfl ?_)
  rintro _ w ⟨rfl, S⟩
  refine gu rfl rfl rfl (noF cc6) (x_not' rfl) <| u rfl (x_pickFV (v := .bool (!y7)) rfl (noF cc6) rfl) <| mv (.bool (!y7)) rfl ?_
  by_cases cc9 : y7 = true
  ·rw [if_pos cc9] at H
   refine gu rfl rfl rfl (noF cc9) (x_fa tf40_1 rfl) <| gu rfl rfl rfl (noF cc9) (x_ld tsc37 rfl (S.load 0 rfl 1 rfl)) ?_
   obtain ⟨y10, hy11, H⟩ := obx H
   refine OK.gt rfl rfl rfl (noF cc9) (cl fb19 (@r03_Flat.ok k x2.Path _ _ _ _ _ hG S x2h1 hy11) rfl ?_)
   rintro vy10_0 w ⟨vy10_0q, J12, hJ13, rfl, hy10_0, S⟩
   have x0h5 := x0h5.mono hJ13
   have x0h6 := x0h6.mono hJ13
   have x2h1 := x2h1.mono hJ13
   have x2h9 := x2h9.mono hJ13
   have x2h10 := x2h10.mono hJ13
   have hI := hI.trans hJ13
   have hG := hG.mono hJ13
   refine gu rfl rfl rfl (noF cc9) (x_lenD (r := (tInt' .u32)) tsl25 hy10_0) <| gu rfl rfl rfl (noF cc9) (x_bin rfl rfl rfl) <| u rfl (x_pickFV (v := .bool (decide ((y10.length : Int) > 70))) rfl (noF cc9) rfl) ?_
   by_cases cc14 : (y10.length : Int) > 70
   ·rw [if_pos cc14] at H
    refine cT rfl (deT cc14) <| sq <| FW.anew [] trivial fun σ => rg ?_
    obtain ⟨y15, hy16, H⟩ := obx H
    refine g rfl (cl fb11 (@w14_awake.ok k _ _ _ _ hG S hy16) rfl ?_)
    rintro _ w ⟨rfl, S⟩
    refine mv (.bool y15) rfl <| rt ?_
    obtain rfl := si H
    exact ⟨_, ⟨_, rfl, rfl⟩, ⟨rfl, ((S.sel 4 [] rfl).weaken hI)⟩⟩
   rw [if_neg cc14] at H
   refine cF rfl (deF cc14) <| sk <| sq <| FW.anew [(3, pt b1), (4, pt b2), (5, pt b3)] ⟨rfl, rfl, rfl, trivial⟩ fun σ => rg <| u rfl (x_ldA tag27 rfl (S.loadW 3 rfl) rfl) <| g rfl (o_all tz27 S fun b17 w S => g rfl (o_stA tag27 S 0 rfl rfl rfl rfl (c1 rfl (c1 rfl (c1 rfl (c1 rfl (c1 rfl (c1 x0h5.one (c1 x0h6.one c0))))))) rfl fun w S => sq (rg (u rfl (x_fa tf27_1 rfl) (u rfl (x_ld tsc4 rfl (S.load 4 rfl 1 rfl)) (u rfl (x_not' rfl) (u rfl (x_fa tf27_1 rfl) (g rfl (o_st tone4 S 0 rfl rfl rfl rfl fun w S => sq (FW.anew [(3, pt b1), (4, pt b2), (5, pt b3), (7, pt b17)] ⟨rfl, rfl, rfl, rfl, trivial⟩ fun σ => ?_))))))))))
   have S := S.drew
   refine FW.regionD mixed ?_
   have hO := Hold.nil (w := { w with drawn := w.drawn + 1 })
   have hR18 := ilr J12
   refine ak (Stab J12 [.bk b1 27 [.int .i64 x0.Kind, .bool x0.Not, .int .i64 x0.Num, .int .u32 x0.Addr, .string x0.Text, x0v5, x0v6]]) 0 rfl (by kernel_rfl) hO (Stab.of S 4 rfl hR18) (fun w hS => x_ldA tag27 rfl (hS.loadW 0 rfl) rfl) fun hO => ak (Stab J12 [.bk b2 36 [.int .u32 x1.Addr, .int .i64 x1.Len]]) 1 rfl (by kernel_rfl) hO (Stab.of S 3 rfl hR18) (fun w hS => x_ldA tag36 rfl (hS.loadW 0 rfl) rfl) fun hO => ak (Stab J12 [.bk b3 40 [.int .i64 x2.Origin, x2v1, .int .u32 x2.Next, .int .i64 x2.Med, .int .i64 x2.Pref, .bool x2.Atomic, .bool x2.HasAggr, .int .u32 x2.AggrAS, .int .u32 x2.AggrAddr, x2v9, x2v10]]) 2 rfl (by kernel_rfl) hO (Stab.of S 2 rfl hR18) (fun w hS => x_ldA tag40 rfl (hS.loadW 0 rfl) rfl) fun hO => ak (Stab J12 [.bk b1 27 [.int .i64 x0.Kind, .bool x0.Not, .int .i64 x0.Num, .int .u32 x0.Addr, .string x0.Text, x0v5, x0v6]]) 4 rfl (by kernel_rfl) hO (Stab.of S 4 rfl hR18) (fun w hS => x_ldA tag27 rfl (hS.loadW 0 rfl) rfl) fun hO => ak (Stab J12 [.bk b2 36 [.int .u32 x1.Addr, .int .i64 x1.Len]]) 5 rfl (by kernel_rfl) hO (Stab.of S 3 rfl hR18) (fun w hS => x_ldA tag36 rfl (hS.loadW 0 rfl) rfl) fun hO => ak (Stab J12 [.bk b3 40 [.int .i64 x2.Origin, x2v1, .int .u32 x2.Next, .int .i64 x2.Med, .int .i64 x2.Pref, .bool x2.Atomic, .bool x2.HasAggr, .int .u32 x2.AggrAS, .int .u32 x2.AggrAddr, x2v9, x2v10]]) 6 rfl (by kernel_rfl) hO (Stab.of S 2 rfl hR18) (fun w hS => x_ldA tag40 rfl (hS.loadW 0 rfl) rfl) fun hO => AQ.one 3 [6, 5, 4, 2, 1, 0] [true, true, true, false, false, false] (by kernel_rfl) rfl (by kernel_rfl) ?_
   obtain ⟨y19, hy20, H⟩ := obx H
   refine g rfl (cl fb20 (@policy_Holds.ok k x0 x1 x2 _ _ _ _ _ _ _ _ _ hG S x0h5 x0h6 x2h1 x2h9 x2h10 hy20) rfl ?_)
   rintro _ w ⟨rfl, S⟩
   refine andI (Hold.cons (Stab.of S 2 rfl hR18) (Hold.cons (Stab.of S 3 rfl hR18) (Hold.cons (Stab.of S 4 rfl hR18) Hold.nil))) fun hO => AQ.one 7 [6, 5, 4] [false, false, false] (by kernel_rfl) rfl (by kernel_rfl) ?_
   obtain ⟨y21, hy22, H⟩ := obx H
   refine g rfl (cl fb21 (@r14_Holds.ok k x0 x1 x2 _ _ _ _ _ _ _ _ _ hG S x0h5 x0h6 x2h1 x2h9 x2h10 hy22) rfl ?_)
   rintro _ w ⟨rfl, S⟩
   refine andI Hold.nil fun hO => ap 8 rfl (by kernel_rfl) hO (fun w => x_beq tbool4 rfl rfl) <| am 9 (.bool (y19 == y21)) rfl (by kernel_rfl) hO ?_
   by_cases cc23 : y19 = y21
   ·rw [if_pos cc23] at H
    refine AQ.take (S := Stab J12 [.bk b17 27 [.int .i64 x0.Kind, .bool (!x0.Not), .int .i64 x0.Num, .int .u32 x0.Addr, .string x0.Text, x0v5, x0v6]]) 10 rfl (by kernel_rfl) (by kernel_rfl) (by kernel_rfl) (gT rfl rfl (beT cc23)) hO (Stab.of S 0 rfl hR18) (fun w hS => x_ldA tag27 rfl (hS.loadW 0 rfl) rfl) fun hO => AQ.take (S := Stab J12 [.bk b2 36 [.int .u32 x1.Addr, .int .i64 x1.Len]]) 11 rfl (by kernel_rfl) (by kernel_rfl) (by kernel_rfl) (gT rfl rfl (beT cc23)) hO (Stab.of S 3 rfl hR18) (fun w hS => x_ldA tag36 rfl (hS.loadW 0 rfl) rfl) fun hO => AQ.take (S := Stab J12 [.bk b3 40 [.int .i64 x2.Origin, x2v1, .int .u32 x2.Next, .int .i64 x2.Med, .int .i64 x2.Pref, .bool x2.Atomic, .bool x2.HasAggr, .int .u32 x2.AggrAS, .int .u32 x2.AggrAddr, x2v9, x2v10]]) 12 rfl (by kernel_rfl) (by kernel_rfl) (by kernel_rfl) (gT rfl rfl (beT cc23)) hO (Stab.of S 2 rfl hR18) (fun w hS => x_ldA tag40 rfl (hS.loadW 0 rfl) rfl) fun hO => AQ.take (S := Stab J12 [.bk b1 27 [.int .i64 x0.Kind, .bool x0.Not, .int .i64 x0.Num, .int .u32 x0.Addr, .string x0.Text, x0v5, x0v6]]) 14 rfl (by kernel_rfl) (by kernel_rfl) (by kernel_rfl) (gT rfl rfl (beT cc23)) hO (Stab.of S 4 rfl hR18) (fun w hS => x_ldA tag27 rfl (hS.loadW 0 rfl) rfl) fun hO => AQ.take (S := Stab J12 [.bk b2 36 [.int .u32 x1.Addr, .int .i64 x1.Len]]) 15 rfl (by kernel_rfl) (by kernel_rfl) (by kernel_rfl) (gT rfl rfl (beT cc23)) hO (Stab.of S 3 rfl hR18) (fun w hS => x_ldA tag36 rfl (hS.loadW 0 rfl) rfl) fun hO => AQ.take (S := Stab J12 [.bk b3 40 [.int .i64 x2.Origin, x2v1, .int .u32 x2.Next, .int .i64 x2.Med, .int .i64 x2.Pref, .bool x2.Atomic, .bool x2.HasAggr, .int .u32 x2.AggrAS, .int .u32 x2.AggrAddr, x2v9, x2v10]]) 16 rfl (by kernel_rfl) (by kernel_rfl) (by kernel_rfl) (gT rfl rfl (beT cc23)) hO (Stab.of S 2 rfl hR18) (fun w hS => x_ldA tag40 rfl (hS.loadW 0 rfl) rfl) fun hO => AQ.one 13 [16, 15, 14, 12, 11, 10] [true, true, true, false, false, false] (by kernel_rfl) rfl (by kernel_rfl) ?_
    obtain ⟨y24, hy25, H⟩ := obx H
    refine OK.gt rfl rfl rfl (beT cc23) (cl fb20 (@policy_Holds.ok k (T_api_Cond.mk x0.Kind (!x0.Not) x0.Num x0.Addr x0.Text x0.Range x0.Comms) x1 x2 _ _ _ _ _ _ _ _ _ hG S x0h5 x0h6 x2h1 x2h9 x2h10 hy25) rfl ?_)
    rintro _ w ⟨rfl, S⟩
    refine andI (Hold.cons (Stab.of S 2 rfl hR18) (Hold.cons (Stab.of S 3 rfl hR18) (Hold.cons (Stab.of S 4 rfl hR18) Hold.nil))) fun hO => AQ.one 17 [16, 15, 14] [false, false, false] (by kernel_rfl) rfl (by kernel_rfl) ?_
    obtain ⟨y26, hy27, H⟩ := obx H
    refine OK.gt rfl rfl rfl (beT cc23) (cl fb21 (@r14_Holds.ok k x0 x1 x2 _ _ _ _ _ _ _ _ _ hG S x0h5 x0h6 x2h1 x2h9 x2h10 hy27) rfl ?_)
    rintro _ w ⟨rfl, S⟩
    refine andI Hold.nil fun hO => AQ.pure 18 rfl (by kernel_rfl) (by kernel_rfl) (by kernel_rfl) (gT rfl rfl (beT cc23)) hO (fun w => x_not' rfl) <| AQ.pure 19 rfl (by kernel_rfl) (by kernel_rfl) (by kernel_rfl) (gT rfl rfl (beT cc23)) hO (fun w => x_beq tbool4 rfl rfl) <| ap 20 rfl (by kernel_rfl) hO (fun w => x_pickTV (v := .bool (y24 == (!y26))) rfl (beT cc23) rfl) <| am 21 (.bool (y24 == (!y26))) rfl (by kernel_rfl) hO ?_
    by_cases cc28 : y24 = (!y26)
    ·rw [if_pos cc28] at H
     refine AQ.one 22 [] [] (by kernel_rfl) rfl (by kernel_rfl) ?_
     obtain ⟨y29, hy30, H⟩ := obx H
     refine OK.gt rfl rfl rfl (beT cc28) (cl fb11 (@w14_awake.ok k _ _ _ _ hG S hy30) rfl ?_)
     rintro _ w ⟨rfl, S⟩
     refine andI Hold.nil fun hO => ap 23 rfl (by kernel_rfl) hO (fun w => x_pickTV (v := .bool y29) rfl (beT cc28) rfl) <| ap 24 rfl (by kernel_rfl) hO (fun w => x_asgV (v := .bool y29) rfl) <| AQ.done (by kernel_rfl) <| rt ?_
     obtain rfl := si H
     exact ⟨_, ⟨_, rfl, rfl⟩, ⟨rfl, ((S.sel 5 [] rfl).weaken hI)⟩⟩
    rw [if_neg cc28] at H
    refine AQ.skip 22 rfl (by kernel_rfl) (by kernel_rfl) (by kernel_rfl) rfl rfl (beF cc28) hO <| ap 23 rfl (by kernel_rfl) hO (fun w => x_pickFV (v := .bool false) rfl (beF cc28) rfl) <| ap 24 rfl (by kernel_rfl) hO (fun w => x_asgV (v := .bool false) rfl) <| AQ.done (by kernel_rfl) <| rt ?_
    obtain rfl := si H
    exact ⟨_, ⟨_, rfl, rfl⟩, ⟨rfl, ((S.sel 5 [] rfl).weaken hI)⟩⟩
   rw [if_neg cc23] at H
   refine AQ.skip 10 rfl (by kernel_rfl) (by kernel_rfl) (by kernel_rfl) rfl rfl (beF cc23) hO <| AQ.skip 11 rfl (by kernel_rfl) (by kernel_rfl) (by kernel_rfl) rfl rfl (beF cc23) hO <| AQ.skip 12 rfl (by kernel_rfl) (by kernel_rfl) (by kernel_rfl) rfl rfl (beF cc23) hO <| AQ.skip 13 rfl (by kernel_rfl) (by kernel_rfl) (by kernel_rfl) rfl rfl (beF cc23) hO <| AQ.skip 14 rfl (by kernel_rfl) (by kernel_rfl) (by kernel_rfl) rfl rfl (beF cc23) hO <| AQ.skip 15 rfl (by kernel_rfl) (by kernel_rfl) (by kernel_rfl) rfl rfl (beF cc23) hO <| AQ.skip 16 rfl (by kernel_rfl) (by kernel_rfl) (by kernel_rfl) rfl rfl (beF cc23) hO <| AQ.skip 17 rfl (by kernel_rfl) (by kernel_rfl) (by kernel_rfl) rfl rfl (beF cc23) hO <| AQ.skip 18 rfl (by kernel_rfl) (by kernel_rfl) (by kernel_rfl) rfl rfl (beF cc23) hO <| AQ.skip 19 rfl (by kernel_rfl) (by kernel_rfl) (by kernel_rfl) rfl rfl (beF cc23) hO <| ap 20 rfl (by kernel_rfl) hO (fun w => x_pickFV (v := .bool false) rfl (beF cc23) rfl) <| am 21 (.bool false) rfl (by kernel_rfl) hO <| AQ.skip 22 rfl (by kernel_rfl) (by kernel_rfl) (by kernel_rfl) rfl rfl rfl hO <| ap 23 rfl (by kernel_rfl) hO (fun w => x_pickFV (v := .bool false) rfl rfl rfl) <| ap 24 rfl (by kernel_rfl) hO (fun w => x_asgV (v := .bool false) rfl) <| AQ.done (by kernel_rfl) <| rt ?_
   obtain rfl := si H
   exact ⟨_, ⟨_, rfl, rfl⟩, ⟨rfl, ((S.sel 5 [] rfl).weaken hI)⟩⟩
  rw [if_neg cc9] at H
  refine gn rfl rfl rfl (noT (vaF cc9)) <| gn rfl rfl rfl (noT (vaF cc9)) <| gn rfl rfl rfl (noT (vaF cc9)) <| gn rfl rfl rfl (noT (vaF cc9)) <| gn rfl rfl rfl (noT (vaF cc9)) <| u rfl (x_pickTV (v := .bool true) rfl (noT (vaF cc9)) rfl) <| cT rfl rfl <| sq <| FW.anew [] trivial fun σ => rg ?_
  obtain ⟨y31, hy32, H⟩ := obx H
  refine g rfl (cl fb11 (@w14_awake.ok k _ _ _ _ hG S hy32) rfl ?_)
  rintro _ w ⟨rfl, S⟩
  refine mv (.bool y31) rfl <| rt ?_
  obtain rfl := si H
  exact ⟨_, ⟨_, rfl, rfl⟩, ⟨rfl, ((S.sel 3 [] rfl).weaken hI)⟩⟩
 rw [if_neg cc6] at H
 refine gn rfl rfl rfl (noT (vaF cc6)) <| gn rfl rfl rfl (noT (vaF cc6)) <| gn rfl rfl rfl (noT (vaF cc6)) <| u rfl (x_pickTV (v := .bool true) rfl (noT (vaF cc6)) rfl) <| mv (.bool true) rfl <| gn rfl rfl rfl rfl <| gn rfl rfl rfl rfl <| gn rfl rfl rfl rfl <| gn rfl rfl rfl rfl <| gn rfl rfl rfl rfl <| u rfl (x_pickTV (v := .bool true) rfl rfl rfl) <| cT rfl rfl <| sq <| FW.anew [] trivial fun σ => rg ?_
 obtain ⟨y33, hy34, H⟩ := obx H
 refine g rfl (cl fb11 (@w14_awake.ok k _ _ _ _ hG S hy34) rfl ?_)
 rintro _ w ⟨rfl, S⟩
 refine mv (.bool y33) rfl <| rt ?_
 obtain rfl := si H
 exact ⟨_, ⟨_, rfl, rfl⟩, ⟨rfl, ((S.sel 3 [] rfl).weaken hI)⟩⟩
end Go.Proofs.YtafnenafbognkaaGreatDoor
