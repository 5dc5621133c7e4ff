/-
  Parts of the proof, merged: F4, F5.
-/
import Derived.Test.YtafnenafbognkaaGreatDoorW9
namespace Go.Proofs.YtafnenafbognkaaGreatDoor
open Sp
set_option maxRecDepth 100000
set_option maxHeartbeats 4000000
mutual
def regex_Expr_compile.l0 : Nat → T_regex_piece → Int → Int → (List T_regex_piece) → (List T_regex_span) → Bool → (List T_regex_step) → Option (Int × (List T_regex_piece) × (List T_regex_span) × Bool × (List T_regex_step))
  | 0, _, _, _, _, _, _, _ => none
  | k + 1, x1, n4, n5, l6, l9, b12, l13 => (if n4 < (x1.parts.length : Int) then ((lat x1.parts n4).bind fun y39 => ((regex_Expr_compile.f k (T_regex_Expr.mk (T_regex_piece.mk n5 l6 l9 b12) l13) y39).bind fun y47 => (regex_Expr_compile.l0 k x1 (i64 (n4 + 1)) y47.top.kind y47.top.parts y47.top.spans y47.top.not y47.prog))) else (some (n5, l6, l9, b12, l13)))
def regex_Expr_compile.f : Nat → T_regex_Expr → T_regex_piece → Option T_regex_Expr
  | 0, _, _ => none
  | k + 1, x0, x1 => (if x1.kind = 0 then ((regex_Expr_compile.l0 k x1 0 x0.top.kind x0.top.parts x0.top.spans x0.top.not x0.prog).bind fun (n24, l25, l28, b31, l32) => (some (T_regex_Expr.mk (T_regex_piece.mk n24 l25 l28 b31) l32))) else (if x1.kind = 1 then ((regex_Expr_choices.f k x0 x1.parts).bind fun y52 => (some y52)) else ((if x1.kind = 2 then (some (x1.kind == 2)) else (some (x1.kind == 4))).bind fun b57 => (if b57 = true then ((regex_Expr_put.f k x0 (T_regex_step.mk 0 x1.spans false x1.not (0, 0))).bind fun y63 => (some y63.2)) else (if x1.kind = 3 then ((regex_Expr_put.f k x0 (T_regex_step.mk 0 [] true false (0, 0))).bind fun y68 => (some y68.2)) else (if x1.kind = 5 then ((regex_Expr_put.f k x0 (T_regex_step.mk 2 [] false false (0, 0))).bind fun y73 => (some y73.2)) else (if x1.kind = 6 then ((regex_Expr_put.f k x0 (T_regex_step.mk 3 [] false false (0, 0))).bind fun y78 => (some y78.2)) else (if x1.kind = 8 then ((lat x1.parts 0).bind fun y83 => ((regex_Expr_compile.f k x0 y83).bind fun y90 => ((regex_Expr_put.f k y90 (T_regex_step.mk 1 [] false false (0, 0))).bind fun y94 => ((lat y94.2.prog y94.1).bind fun y99 => (some (T_regex_Expr.mk y94.2.top (y94.2.prog.set y94.1.toNat (T_regex_step.mk y99.op y99.spans y99.all y99.not ((x0.prog.length : Int), (y94.2.prog.length : Int)))))))))) else ((regex_Expr_put.f k x0 (T_regex_step.mk 1 [] false false (0, 0))).bind fun y109 => ((lat y109.2.prog y109.1).bind fun y114 => ((lat x1.parts 0).bind fun y124 => ((regex_Expr_compile.f k (T_regex_Expr.mk y109.2.top (y109.2.prog.set y109.1.toNat (T_regex_step.mk y114.op y114.spans y114.all y114.not ((y109.2.prog.length : Int), y114.to_.2)))) y124).bind fun y131 => ((if x1.kind = 7 then ((regex_Expr_put.f k y131 (T_regex_step.mk 1 [] false false (0, 0))).bind fun y153 => ((lat y153.2.prog y153.1).bind fun y157 => (some (y153.2.top.kind, y153.2.top.parts, y153.2.top.spans, y153.2.top.not, (y153.2.prog.set y153.1.toNat (T_regex_step.mk y157.op y157.spans y157.all y157.not (y109.1, y109.1))))))) else (some (y131.top.kind, y131.top.parts, y131.top.spans, y131.top.not, y131.prog))).bind fun (n136, l137, l140, b143, l144) => ((lat l144 y109.1).bind fun y168 => (some (T_regex_Expr.mk (T_regex_piece.mk n136 l137 l140 b143) (l144.set y109.1.toNat (T_regex_step.mk y168.op y168.spans y168.all y168.not (y168.to_.1, (l144.length : Int))))))))))))))))))))
def regex_Expr_choices.l0 : Nat → (List T_regex_piece) → (List Int) → Int → Int → (List T_regex_piece) → (List T_regex_span) → Bool → (List T_regex_step) → Option ((List Int) × Int × (List T_regex_piece) × (List T_regex_span) × Bool × (List T_regex_step))
  | 0, _, _, _, _, _, _, _, _ => none
  | k + 1, x1, l3, n6, n7, l8, l11, b14, l15 => (if n6 < (x1.length : Int) then ((lat x1 n6).bind fun y44 => (if n6 = (i64 ((x1.length : Int) - 1)) then ((regex_Expr_compile.f k (T_regex_Expr.mk (T_regex_piece.mk n7 l8 l11 b14) l15) y44).bind fun y53 => (some (l3, y53.top.kind, y53.top.parts, y53.top.spans, y53.top.not, y53.prog))) else ((regex_Expr_put.f k (T_regex_Expr.mk (T_regex_piece.mk n7 l8 l11 b14) l15) (T_regex_step.mk 1 [] false false (0, 0))).bind fun y57 => ((lat y57.2.prog y57.1).bind fun y62 => ((regex_Expr_compile.f k (T_regex_Expr.mk y57.2.top (y57.2.prog.set y57.1.toNat (T_regex_step.mk y62.op y62.spans y62.all y62.not ((y57.2.prog.length : Int), y62.to_.2)))) y44).bind fun y72 => ((regex_Expr_put.f k y72 (T_regex_step.mk 1 [] false false (0, 0))).bind fun y76 => ((app 8 l3 [y76.1]).bind fun l84 => ((lat y76.2.prog y57.1).bind fun y91 => (regex_Expr_choices.l0 k x1 l84 (i64 (n6 + 1)) y76.2.top.kind y76.2.top.parts y76.2.top.spans y76.2.top.not (y76.2.prog.set y57.1.toNat (T_regex_step.mk y91.op y91.spans y91.all y91.not (y91.to_.1, (y76.2.prog.length : Int))))))))))))) else (some (l3, n7, l8, l11, b14, l15)))
def regex_Expr_choices.l1 : Nat → (List Int) → Int → (List T_regex_step) → Option (List T_regex_step)
  | 0, _, _, _ => none
  | k + 1, l26, n102, l103 => (if n102 < (l26.length : Int) then ((lat l26 n102).bind fun y121 => ((lat l103 y121).bind fun y129 => (regex_Expr_choices.l1 k l26 (i64 (n102 + 1)) (l103.set y121.toNat (T_regex_step.mk y129.op y129.spans y129.all y129.not ((l103.length : Int), (l103.length : Int))))))) else (some l103))
def regex_Expr_choices.f : Nat → T_regex_Expr → (List T_regex_piece) → Option T_regex_Expr
  | 0, _, _ => none
  | k + 1, x0, x1 => ((regex_Expr_choices.l0 k x1 [] 0 x0.top.kind x0.top.parts x0.top.spans x0.top.not x0.prog).bind fun (l26, n29, l30, l33, b36, l37) => ((regex_Expr_choices.l1 k l26 0 l37).bind fun l114 => (some (T_regex_Expr.mk (T_regex_piece.mk n29 l30 l33 b36) l114))))
end
abbrev regex_Expr_compile.C (k : Nat) : Prop := ∀ {x0 : T_regex_Expr} {x1 : T_regex_piece} {x0v1 : Value} {x0v2 : Value} {x0v4 : Value} {cx0_4 : List Value} {x1v1 : Value} {x1v2 : Value} {bx0 : Nat} {F : List It} {I : IMem} {w : World} {r : T_regex_Expr}, Glob I → Own I w (.bk bx0 128 [.int .i64 x0.top.kind, x0v1, x0v2, .bool x0.top.not, x0v4] :: .av x0v4 132 6 cx0_4 :: F) → SlR R_regex_piece I x0v1 x0.top.parts → SlR R_regex_span I x0v2 x0.top.spans → Flat R_regex_step I cx0_4 x0.prog → SlR R_regex_piece I x1v1 x1.parts → SlR R_regex_span I x1v2 x1.spans → regex_Expr_compile.f k x0 x1 = some r →
    Calls Tryz.prog 84 #[pt bx0, .agg #[.int .i64 x1.kind, x1v1, x1v2, .bool x1.not]] w fun e w' => ∃ v, e = .returned v ∧ ∃ (y_0v1 : Value) (y_0v2 : Value) (y_0v4 : Value) (cy_0_4 : List Value) (J : IMem), I.le J ∧ v = .tuple #[] ∧ SlR R_regex_piece J y_0v1 r.top.parts ∧ SlR R_regex_span J y_0v2 r.top.spans ∧ Flat R_regex_step J cy_0_4 r.prog ∧ Own J w' (.bk bx0 128 [.int .i64 r.top.kind, y_0v1, y_0v2, .bool r.top.not, y_0v4] :: .av y_0v4 132 6 cy_0_4 :: F)
abbrev regex_Expr_choices.C (k : Nat) : Prop := ∀ {x0 : T_regex_Expr} {x1 : (List T_regex_piece)} {x0v1 : Value} {x0v2 : Value} {x0v4 : Value} {cx0_4 : List Value} {vx1 : Value} {bx0 : Nat} {F : List It} {I : IMem} {w : World} {r : T_regex_Expr}, Glob I → Own I w (.bk bx0 128 [.int .i64 x0.top.kind, x0v1, x0v2, .bool x0.top.not, x0v4] :: .av x0v4 132 6 cx0_4 :: F) → SlR R_regex_piece I x0v1 x0.top.parts → SlR R_regex_span I x0v2 x0.top.spans → Flat R_regex_step I cx0_4 x0.prog → SlR R_regex_piece I vx1 x1 → regex_Expr_choices.f k x0 x1 = some r →
    Calls Tryz.prog 116 #[pt bx0, vx1] w fun e w' => ∃ v, e = .returned v ∧ ∃ (y_0v1 : Value) (y_0v2 : Value) (y_0v4 : Value) (cy_0_4 : List Value) (J : IMem), I.le J ∧ v = .tuple #[] ∧ SlR R_regex_piece J y_0v1 r.top.parts ∧ SlR R_regex_span J y_0v2 r.top.spans ∧ Flat R_regex_step J cy_0_4 r.prog ∧ Own J w' (.bk bx0 128 [.int .i64 r.top.kind, y_0v1, y_0v2, .bool r.top.not, y_0v4] :: .av y_0v4 132 6 cy_0_4 :: F)
theorem regex_Expr_compile.step (k : Nat) (ih_regex_Expr_compile : ∀ m, m ≤ k → regex_Expr_compile.C m) (ih_regex_Expr_choices : ∀ m, m ≤ k → regex_Expr_choices.C m) : regex_Expr_compile.C (k + 1) := by
 intro x0 x1 x0v1 x0v2 x0v4 cx0_4 x1v1 x1v2 bx0 F I w r hG S x0h1 x0h2 x0h4 x1h1 x1h2 H
 have hI := IMem.le.refl I
 rw [regex_Expr_compile.f] at H
 refine Calls.ofFW (args := [pt bx0, .agg #[.int .i64 x1.kind, x1v1, x1v2, .bool x1.not]]) Tryz.func84 rfl rfl <| sr <| g rfl (o_boxA rfl S fun b1 w S => sq (rg (u rfl (x_fa tf121_0 rfl) (u rfl (x_ld tsc3 rfl (S.load 0 rfl 0 rfl)) (bk (sq (rg (u rfl (x_bin rfl rfl rfl) (mv (.bool (x1.kind == 0)) rfl ?_)))))))))
 by_cases cc2 : x1.kind = 0
 ·rw [if_pos cc2] at H
  refine cT rfl (eqT cc2) <| sr <| u rfl (x_fa tf121_1 rfl) <| u rfl (x_ld tsc118 rfl (S.load 0 rfl 1 rfl)) <| u rfl (x_lenD (r := R_regex_piece) tsl118 x1h1) <| mv (.int .i64 0) rfl <| bk ?_
  obtain ⟨o20, hl22, HO21⟩ := obx H
  refine FW.cutX 1 (fun σ w => ∃ (n24 : Int) (l25 : (List T_regex_piece)) (l28 : (List T_regex_span)) (b31 : Bool) (l32 : (List T_regex_step)) (v26 : Value) (v29 : Value) (v33 : Value) (a34 : List Value) (J23 : IMem), (n24, l25, l28, b31, l32) = o20 ∧ Has σ [] ∧ I.le J23 ∧ Own J23 w (.bk b1 121 [.int .i64 x1.kind, x1v1, x1v2, .bool x1.not] :: .bk bx0 128 [.int .i64 n24, v26, v29, .bool b31, v33] :: .av v33 132 6 a34 :: F) ∧ SlR R_regex_piece J23 v26 l25 ∧ SlR R_regex_span J23 v29 l28 ∧ Flat R_regex_step J23 a34 l32) ?_ ?_
  ·refine FW.loop k (FL.ind (fun q σ w => ∃ (n4 : Int) (n5 : Int) (l6 : (List T_regex_piece)) (l9 : (List T_regex_span)) (b12 : Bool) (l13 : (List T_regex_step)) (v7 : Value) (v10 : Value) (v14 : Value) (a15 : List Value) (J3 : IMem), regex_Expr_compile.l0 q x1 n4 n5 l6 l9 b12 l13 = some o20 ∧ q ≤ k ∧ Has σ [(0, pt bx0), (66, x1v1), (67, .int .i64 (x1.parts.length : Int)), (68, .int .i64 n4)] ∧ I.le J3 ∧ Own J3 w (.bk b1 121 [.int .i64 x1.kind, x1v1, x1v2, .bool x1.not] :: .bk bx0 128 [.int .i64 n5, v7, v10, .bool b12, v14] :: .av v14 132 6 a15 :: F) ∧ SlR R_regex_piece J3 v7 l6 ∧ SlR R_regex_span J3 v10 l9 ∧ Flat R_regex_step J3 a15 l13) ?_ ?_ k k _ _ (Nat.le_refl _) ⟨0, x0.top.kind, x0.top.parts, x0.top.spans, x0.top.not, x0.prog, x0v1, x0v2, x0v4, cx0_4, I, hl22, Nat.le_refl _, ⟨rfl, rfl, rfl, rfl, trivial⟩, (IMem.le.refl _), S, x0h1, x0h2, x0h4⟩)
   ·rintro σ w ⟨n4, n5, l6, l9, b12, l13, v7, v10, v14, a15, J3, H, _⟩; cases H
   rintro q18 σ w ⟨n4, n5, l6, l9, b12, l13, v7, v10, v14, a15, J3, H, hq37, hσ, hL19, S, h8, h11, h16⟩
   have x1h1 := x1h1.mono hL19
   have hG := hG.mono hL19
   rw [hσ.eq]
   rw [regex_Expr_compile.l0] at H
   refine sr <| u rfl (x_bin rfl rfl rfl) <| sq ?_
   by_cases cc38 : n4 < (x1.parts.length : Int)
   ·rw [if_pos cc38] at H
    refine cT rfl (deT cc38) <| sk <| sq <| bk <| sq <| rg ?_
    obtain ⟨y39, h40, H⟩ := obx H
    refine g rfl (o_ia (r := R_regex_piece) tsl118 rfl rfl x1h1 rfl h40 fun b41 o42 cs43 hr44 hc45 => ?_)
    obtain ⟨y39v1, y39v2, rfl, y39h1, y39h2⟩ := R_regex_piece.un hr44
    refine u rfl (x_ldA tag121 rfl (S.loadI hc45) rfl) <| g rfl (o_all tz121 S fun b46 w S => g rfl (o_stA tag121 S 0 rfl rfl rfl rfl (c1 rfl (c1 y39h1.one (c1 y39h2.one (c1 rfl c0)))) rfl fun w S => rg (mv (pt bx0) rfl (u rfl (x_ldA tag121 rfl (S.loadW 0 rfl) rfl) ?_))))
    obtain ⟨y47, hy48, H⟩ := obx H
    refine g rfl (cl fb84 (@ih_regex_Expr_compile q18 (by omega) (T_regex_Expr.mk (T_regex_piece.mk n5 l6 l9 b12) l13) y39 _ _ _ _ _ _ _ _ _ _ _ hG (S.sel 4 [2, 3, 0, 1] rfl) h8 h11 h16 y39h1 y39h2 hy48) rfl ?_)
    rintro _ w ⟨y47_0v1, y47_0v2, y47_0v4, cy47_0_4, J49, hJ50, rfl, y47_0h1, y47_0h2, y47_0h4, S⟩
    have hL19 := hL19.trans hJ50
    refine FW.anew [(0, pt bx0), (66, x1v1), (67, .int .i64 (x1.parts.length : Int)), (68, .int .i64 n4)] ⟨rfl, rfl, rfl, rfl, trivial⟩ fun σ => rg <| u rfl (x_bin rfl rfl rfl) <| mv (.int .i64 (i64 (n4 + 1))) rfl ⟨q18, Nat.le_refl _, (i64 (n4 + 1)), y47.top.kind, y47.top.parts, y47.top.spans, y47.top.not, y47.prog, y47_0v1, y47_0v2, y47_0v4, cy47_0_4, J49, H, (Nat.le_of_succ_le hq37), ⟨rfl, rfl, rfl, rfl, trivial⟩, hL19, (S.sel 4 [3, 0, 1] rfl), y47_0h1, y47_0h2, y47_0h4⟩
   rw [if_neg cc38] at H
   refine cF rfl (deF cc38) <| ex ⟨n5, l6, l9, b12, l13, v7, v10, v14, a15, J3, (si H), trivial, hL19, S, h8, h11, h16⟩
  rintro σ w ⟨n24, l25, l28, b31, l32, v26, v29, v33, a34, J23, ho, hσ, hL19, S, h27, h30, h35⟩
  subst ho
  have H := HO21
  try dsimp only at H
  have hI := hI.trans hL19
  rw [hσ.eq]
  obtain rfl := si H
  exact ⟨_, rfl, ⟨v26, v29, v33, a34, J23, hI, rfl, h27, h30, h35, (S.sel 3 [1, 2] rfl)⟩⟩
 rw [if_neg cc2] at H
 refine cF rfl (eqF cc2) <| sr <| u rfl (x_bin rfl rfl rfl) <| mv (.bool (x1.kind == 1)) rfl ?_
 by_cases cc51 : x1.kind = 1
 ·rw [if_pos cc51] at H
  refine cT rfl (eqT cc51) <| FW.anew [(0, pt bx0), (3, pt b1)] ⟨rfl, rfl, trivial⟩ fun σ => rg <| mv (pt bx0) rfl <| u rfl (x_fa tf121_1 rfl) <| u rfl (x_ld tsc118 rfl (S.load 0 rfl 1 rfl)) ?_
  obtain ⟨y52, hy53, H⟩ := obx H
  refine g rfl (cl fb116 (@ih_regex_Expr_choices k (by omega) x0 x1.parts _ _ _ _ _ _ _ _ _ _ hG (S.sel 3 [1, 2, 0] rfl) x0h1 x0h2 x0h4 x1h1 hy53) rfl ?_)
  rintro _ w ⟨y52_0v1, y52_0v2, y52_0v4, cy52_0_4, J54, hJ55, rfl, y52_0h1, y52_0h2, y52_0h4, S⟩
  have hI := hI.trans hJ55
  obtain rfl := si H
  exact ⟨_, rfl, ⟨y52_0v1, y52_0v2, y52_0v4, cy52_0_4, J54, hI, rfl, y52_0h1, y52_0h2, y52_0h4, (S.sel 3 [0, 1] rfl)⟩⟩
 rw [if_neg cc51] at H
 refine cF rfl (eqF cc51) <| sq <| sq <| FW.anew [(0, pt bx0), (3, pt b1), (11, .int .i64 x1.kind)] ⟨rfl, rfl, rfl, trivial⟩ fun σ => rg <| u rfl (x_bin rfl rfl rfl) <| mv (.bool (x1.kind == 2)) rfl ?_
 obtain ⟨o58, H, HO59⟩ := obx H
 have hL60 := IMem.le.refl I
 refine FW.cutN (fun σ w => ∃ (b57 : Bool) (J56 : IMem), b57 = o58 ∧ Has σ [(0, pt bx0), (3, pt b1), (11, .int .i64 x1.kind), (82, .bool b57)] ∧ I.le J56 ∧ Own J56 w (.bk b1 121 [.int .i64 x1.kind, x1v1, x1v2, .bool x1.not] :: .bk bx0 128 [.int .i64 x0.top.kind, x0v1, x0v2, .bool x0.top.not, x0v4] :: .av x0v4 132 6 cx0_4 :: F)) ?_ ?_
 ·by_cases cc61 : x1.kind = 2
  ·rw [if_pos cc61] at H
   refine cT rfl (eqT cc61) <| sk ⟨(x1.kind == 2), I, (si H), ⟨rfl, rfl, rfl, rfl, trivial⟩, hL60, S⟩
  rw [if_neg cc61] at H
  refine cF rfl (eqF cc61) <| rg <| u rfl (x_bin rfl rfl rfl) <| mv (.bool (x1.kind == 4)) rfl ⟨(x1.kind == 4), I, (si H), ⟨rfl, rfl, rfl, rfl, trivial⟩, hL60, S⟩
 rintro σ w ⟨b57, J56, ho, hσ, hL60, S⟩
 subst ho
 have H := HO59
 have x1h1 := x1h1.mono hL60
 have x1h2 := x1h2.mono hL60
 have x0h1 := x0h1.mono hL60
 have x0h2 := x0h2.mono hL60
 have x0h4 := x0h4.mono hL60
 have hI := hI.trans hL60
 have hG := hG.mono hL60
 rw [hσ.eq]
 by_cases cc62 : b57 = true
 ·rw [if_pos cc62] at H
  refine cT rfl cc62 <| rg <| mv (pt bx0) rfl <| u rfl (x_fa tf121_2 rfl) <| u rfl (x_ld tsc119 rfl (S.load 0 rfl 2 rfl)) <| u rfl (x_fa tf121_3 rfl) <| u rfl (x_ld tsc4 rfl (S.load 0 rfl 3 rfl)) <| u rfl (x_bld tz132 tpl132 rfl (.one rfl (.one x1h2.one (.one rfl PC.nil))) rfl) ?_
  obtain ⟨y63, hy64, H⟩ := obx H
  refine g rfl (cl fb117 (@regex_Expr_put.ok k x0 (T_regex_step.mk 0 x1.spans false x1.not (0, 0)) _ _ _ _ _ _ _ _ _ _ hG (S.sel 3 [1, 2, 0] rfl) x0h1 x0h2 x0h4 x1h2 hy64) rfl ?_)
  rintro _ w ⟨y63_1v1, y63_1v2, y63_1v4, cy63_1_4, J65, hJ66, rfl, y63_1h1, y63_1h2, y63_1h4, S⟩
  have hI := hI.trans hJ66
  obtain rfl := si H
  exact ⟨_, rfl, ⟨y63_1v1, y63_1v2, y63_1v4, cy63_1_4, J65, hI, rfl, y63_1h1, y63_1h2, y63_1h4, (S.sel 3 [0, 1] rfl)⟩⟩
 rw [if_neg cc62] at H
 refine cF rfl (vaF cc62) <| sr <| u rfl (x_bin rfl rfl rfl) <| mv (.bool (x1.kind == 3)) rfl ?_
 by_cases cc67 : x1.kind = 3
 ·rw [if_pos cc67] at H
  refine cT rfl (eqT cc67) <| rg <| mv (pt bx0) rfl <| u rfl (x_bld tz132 tpl132 rfl (.one rfl (.one rfl PC.nil)) rfl) ?_
  obtain ⟨y68, hy69, H⟩ := obx H
  refine g rfl (cl fb117 (@regex_Expr_put.ok k x0 (T_regex_step.mk 0 [] true false (0, 0)) _ _ _ _ _ _ _ _ _ _ hG (S.sel 3 [1, 2, 0] rfl) x0h1 x0h2 x0h4 (SlR.nil _ _) hy69) rfl ?_)
  rintro _ w ⟨y68_1v1, y68_1v2, y68_1v4, cy68_1_4, J70, hJ71, rfl, y68_1h1, y68_1h2, y68_1h4, S⟩
  have hI := hI.trans hJ71
  obtain rfl := si H
  exact ⟨_, rfl, ⟨y68_1v1, y68_1v2, y68_1v4, cy68_1_4, J70, hI, rfl, y68_1h1, y68_1h2, y68_1h4, (S.sel 3 [0, 1] rfl)⟩⟩
 rw [if_neg cc67] at H
 refine cF rfl (eqF cc67) <| sr <| u rfl (x_bin rfl rfl rfl) <| mv (.bool (x1.kind == 5)) rfl ?_
 by_cases cc72 : x1.kind = 5
 ·rw [if_pos cc72] at H
  refine cT rfl (eqT cc72) <| rg <| mv (pt bx0) rfl <| u rfl (x_bld tz132 tpl132 rfl (.one rfl PC.nil) rfl) ?_
  obtain ⟨y73, hy74, H⟩ := obx H
  refine g rfl (cl fb117 (@regex_Expr_put.ok k x0 (T_regex_step.mk 2 [] false false (0, 0)) _ _ _ _ _ _ _ _ _ _ hG (S.sel 3 [1, 2, 0] rfl) x0h1 x0h2 x0h4 (SlR.nil _ _) hy74) rfl ?_)
  rintro _ w ⟨y73_1v1, y73_1v2, y73_1v4, cy73_1_4, J75, hJ76, rfl, y73_1h1, y73_1h2, y73_1h4, S⟩
  have hI := hI.trans hJ76
  obtain rfl := si H
  exact ⟨_, rfl, ⟨y73_1v1, y73_1v2, y73_1v4, cy73_1_4, J75, hI, rfl, y73_1h1, y73_1h2, y73_1h4, (S.sel 3 [0, 1] rfl)⟩⟩
 rw [if_neg cc72] at H
 refine cF rfl (eqF cc72) <| sr <| u rfl (x_bin rfl rfl rfl) <| mv (.bool (x1.kind == 6)) rfl ?_
 by_cases cc77 : x1.kind = 6
 ·rw [if_pos cc77] at H
  refine cT rfl (eqT cc77) <| rg <| mv (pt bx0) rfl <| u rfl (x_bld tz132 tpl132 rfl (.one rfl PC.nil) rfl) ?_
  obtain ⟨y78, hy79, H⟩ := obx H
  refine g rfl (cl fb117 (@regex_Expr_put.ok k x0 (T_regex_step.mk 3 [] false false (0, 0)) _ _ _ _ _ _ _ _ _ _ hG (S.sel 3 [1, 2, 0] rfl) x0h1 x0h2 x0h4 (SlR.nil _ _) hy79) rfl ?_)
  rintro _ w ⟨y78_1v1, y78_1v2, y78_1v4, cy78_1_4, J80, hJ81, rfl, y78_1h1, y78_1h2, y78_1h4, S⟩
  have hI := hI.trans hJ81
  obtain rfl := si H
  exact ⟨_, rfl, ⟨y78_1v1, y78_1v2, y78_1v4, cy78_1_4, J80, hI, rfl, y78_1h1, y78_1h2, y78_1h4, (S.sel 3 [0, 1] rfl)⟩⟩
 rw [if_neg cc77] at H
 refine cF rfl (eqF cc77) <| sr <| u rfl (x_bin rfl rfl rfl) <| mv (.bool (x1.kind == 8)) rfl ?_
 by_cases cc82 : x1.kind = 8
 ·rw [if_pos cc82] at H
  refine cT rfl (eqT cc82) <| sq <| FW.anew [(0, pt bx0), (3, pt b1)] ⟨rfl, rfl, trivial⟩ fun σ => rg <| mv (pt bx0) rfl <| u rfl (x_nk rfl) <| u rfl (x_fa tf128_1 rfl) <| u rfl (x_ld tsc126 rfl (S.load 1 rfl 4 rfl)) <| u rfl (x_lenV (r := R_regex_step) tsl126 rfl rfl S 2 rfl x0h4) <| mv (.int .i64 (x0.prog.length : Int)) rfl <| sr <| mv (pt bx0) rfl <| u rfl (x_fa tf121_1 rfl) <| u rfl (x_ld tsc118 rfl (S.load 0 rfl 1 rfl)) ?_
  obtain ⟨y83, h84, H⟩ := obx H
  refine g rfl (o_ia (r := R_regex_piece) tsl118 rfl rfl x1h1 rfl h84 fun b85 o86 cs87 hr88 hc89 => ?_)
  obtain ⟨y83v1, y83v2, rfl, y83h1, y83h2⟩ := R_regex_piece.un hr88
  refine u rfl (x_ldA tag121 rfl (S.loadI hc89) rfl) ?_
  obtain ⟨y90, hy91, H⟩ := obx H
  refine g rfl (cl fb84 (@ih_regex_Expr_compile k (by omega) x0 y83 _ _ _ _ _ _ _ _ _ _ _ hG (S.sel 3 [1, 2, 0] rfl) x0h1 x0h2 x0h4 y83h1 y83h2 hy91) rfl ?_)
  rintro _ w ⟨y90_0v1, y90_0v2, y90_0v4, cy90_0_4, J92, hJ93, rfl, y90_0h1, y90_0h2, y90_0h4, S⟩
  have hI := hI.trans hJ93
  have hG := hG.mono hJ93
  refine sq <| FW.anew [(0, pt bx0), (6, .int .i64 (x0.prog.length : Int))] ⟨rfl, rfl, trivial⟩ fun σ => rg <| mv (pt bx0) rfl <| u rfl (x_bld tz132 tpl132 rfl (.one rfl PC.nil) rfl) ?_
  obtain ⟨y94, hy95, H⟩ := obx H
  refine g rfl (cl fb117 (@regex_Expr_put.ok k y90 (T_regex_step.mk 1 [] false false (0, 0)) _ _ _ _ _ _ _ _ _ _ hG S y90_0h1 y90_0h2 y90_0h4 (SlR.nil _ _) hy95) rfl ?_)
  rintro _ w ⟨y94_1v1, y94_1v2, y94_1v4, cy94_1_4, J96, hJ97, rfl, y94_1h1, y94_1h2, y94_1h4, S⟩
  have hI := hI.trans hJ97
  refine mv (.int .i64 y94.1) rfl ?_
  have S := S.drew
  refine FW.regionD mixed ?_
  have hO := Hold.nil (w := { w with drawn := w.drawn + 1 })
  refine am 0 (pt bx0) rfl (by kernel_rfl) hO <| ap 1 rfl (by kernel_rfl) hO (fun w => x_nk rfl) <| ap 2 rfl (by kernel_rfl) hO (fun w => x_fa tf128_1 rfl) ?_
  have hR98 := IMem.le.refl J96
  refine ak (Stab J96 [.bk bx0 128 [.int .i64 y94.2.top.kind, y94_1v1, y94_1v2, .bool y94.2.top.not, y94_1v4]]) 3 rfl (by kernel_rfl) hO (Stab.of S 0 rfl hR98) (fun w hS => x_ld tsc126 rfl (hS.load 0 rfl 4 rfl)) fun hO => am 4 (.int .i64 y94.1) rfl (by kernel_rfl) hO <| am 5 (.int .i64 (x0.prog.length : Int)) rfl (by kernel_rfl) hO <| am 6 (pt bx0) rfl (by kernel_rfl) hO <| ap 7 rfl (by kernel_rfl) hO (fun w => x_nk rfl) <| ap 8 rfl (by kernel_rfl) hO (fun w => x_fa tf128_1 rfl) <| ak (Stab J96 [.bk bx0 128 [.int .i64 y94.2.top.kind, y94_1v1, y94_1v2, .bool y94.2.top.not, y94_1v4]]) 9 rfl (by kernel_rfl) hO (Stab.of S 0 rfl hR98) (fun w hS => x_ld tsc126 rfl (hS.load 0 rfl 4 rfl)) fun hO => ap 10 rfl (by kernel_rfl) hO (fun w => x_lenVD (r := R_regex_step) tsl126 rfl rfl S 1 rfl y94_1h4 w) <| ap 11 rfl (by kernel_rfl) hO (fun w => x_bldA tar130 tz130 rfl (.one rfl (.one rfl PC.nil)) rfl) ?_
  obtain ⟨y99, h100, H⟩ := obx H
  refine AQ.pureE 12 rfl (by kernel_rfl) (by kernel_rfl) (by kernel_rfl) rfl hO (e_iaVD (r := R_regex_step) tsl126 rfl rfl S 1 rfl y94_1h4 rfl h100) ?_
  rintro _ ⟨b101, cs102, cc103, rfl, hv104, hr105, hc106⟩
  obtain ⟨y99v1, rfl, y99h1⟩ := hr105
  refine ap 13 rfl (by kernel_rfl) hO (fun w => x_fa tf132_4 rfl) <| AQ.one 14 [9, 3] [false, false] (by kernel_rfl) rfl (by kernel_rfl) <| g rfl (o_stVA (r := R_regex_step) (f := 4) (y' := (T_regex_step.mk y99.op y99.spans y99.all y99.not ((x0.prog.length : Int), (y94.2.prog.length : Int)))) tag130 rfl S 1 rfl hv104 y94_1h4 h100 ⟨y99v1, rfl, y99h1⟩ hc106 rfl rfl rfl rfl rfl (c1 rfl (c1 rfl c0)) ⟨y99v1, rfl, y99h1⟩ fun w a107 S h108 => andI Hold.nil fun hO => AQ.done (by kernel_rfl) ?_)
  obtain rfl := si H
  exact ⟨_, rfl, ⟨y94_1v1, y94_1v2, y94_1v4, a107, J96, hI, rfl, y94_1h1, y94_1h2, h108, (S.sel 3 [0, 1] rfl)⟩⟩
 rw [if_neg cc82] at H
 refine cF rfl (eqF cc82) <| sq <| FW.anew [(0, pt bx0), (3, pt b1)] ⟨rfl, rfl, trivial⟩ fun σ => rg <| mv (pt bx0) rfl <| u rfl (x_bld tz132 tpl132 rfl (.one rfl PC.nil) rfl) ?_
 obtain ⟨y109, hy110, H⟩ := obx H
 refine g rfl (cl fb117 (@regex_Expr_put.ok k x0 (T_regex_step.mk 1 [] false false (0, 0)) _ _ _ _ _ _ _ _ _ _ hG (S.sel 3 [1, 2, 0] rfl) x0h1 x0h2 x0h4 (SlR.nil _ _) hy110) rfl ?_)
 rintro _ w ⟨y109_1v1, y109_1v2, y109_1v4, cy109_1_4, J111, hJ112, rfl, y109_1h1, y109_1h2, y109_1h4, S⟩
 have x1h1 := x1h1.mono hJ112
 have hI := hI.trans hJ112
 have hG := hG.mono hJ112
 refine mv (.int .i64 y109.1) rfl <| sq ?_
 have S := S.drew
 refine FW.regionD mixed ?_
 have hO := Hold.nil (w := { w with drawn := w.drawn + 1 })
 refine am 0 (pt bx0) rfl (by kernel_rfl) hO <| ap 1 rfl (by kernel_rfl) hO (fun w => x_nk rfl) <| ap 2 rfl (by kernel_rfl) hO (fun w => x_fa tf128_1 rfl) ?_
 have hR113 := IMem.le.refl J111
 refine ak (Stab J111 [.bk bx0 128 [.int .i64 y109.2.top.kind, y109_1v1, y109_1v2, .bool y109.2.top.not, y109_1v4]]) 3 rfl (by kernel_rfl) hO (Stab.of S 0 rfl hR113) (fun w hS => x_ld tsc126 rfl (hS.load 0 rfl 4 rfl)) fun hO => am 4 (.int .i64 y109.1) rfl (by kernel_rfl) hO <| am 5 (pt bx0) rfl (by kernel_rfl) hO <| ap 6 rfl (by kernel_rfl) hO (fun w => x_nk rfl) <| ap 7 rfl (by kernel_rfl) hO (fun w => x_fa tf128_1 rfl) <| ak (Stab J111 [.bk bx0 128 [.int .i64 y109.2.top.kind, y109_1v1, y109_1v2, .bool y109.2.top.not, y109_1v4]]) 8 rfl (by kernel_rfl) hO (Stab.of S 0 rfl hR113) (fun w hS => x_ld tsc126 rfl (hS.load 0 rfl 4 rfl)) fun hO => ap 9 rfl (by kernel_rfl) hO (fun w => x_lenVD (r := R_regex_step) tsl126 rfl rfl S 1 rfl y109_1h4 w) ?_
 obtain ⟨y114, h115, H⟩ := obx H
 refine AQ.pureE 10 rfl (by kernel_rfl) (by kernel_rfl) (by kernel_rfl) rfl hO (e_iaVD (r := R_regex_step) tsl126 rfl rfl S 1 rfl y109_1h4 rfl h115) ?_
 rintro _ ⟨b116, cs117, cc118, rfl, hv119, hr120, hc121⟩
 obtain ⟨y114v1, rfl, y114h1⟩ := hr120
 refine ap 11 rfl (by kernel_rfl) hO (fun w => x_fa tf132_4 rfl) <| ap 12 rfl (by kernel_rfl) hO (fun w => x_iaA tar130 rfl rfl (by decide) (by decide)) <| AQ.one 13 [8, 3] [false, false] (by kernel_rfl) rfl (by kernel_rfl) <| g rfl (o_stV (r := R_regex_step) (f := 4) (y' := (T_regex_step.mk y114.op y114.spans y114.all y114.not ((y109.2.prog.length : Int), y114.to_.2))) tone3 rfl S 1 rfl hv119 y109_1h4 h115 ⟨y114v1, rfl, y114h1⟩ hc121 rfl rfl rfl rfl ⟨y114v1, rfl, y114h1⟩ fun w a122 S h123 => andI Hold.nil fun hO => AQ.done (by kernel_rfl) (sq (FW.anew [(0, pt bx0), (3, pt b1), (8, .int .i64 y109.1)] ⟨rfl, rfl, rfl, trivial⟩ fun σ => rg (mv (pt bx0) rfl (u rfl (x_fa tf121_1 rfl) (u rfl (x_ld tsc118 rfl (S.load 2 rfl 1 rfl)) ?_))))))
 obtain ⟨y124, h125, H⟩ := obx H
 refine g rfl (o_ia (r := R_regex_piece) tsl118 rfl rfl x1h1 rfl h125 fun b126 o127 cs128 hr129 hc130 => ?_)
 obtain ⟨y124v1, y124v2, rfl, y124h1, y124h2⟩ := R_regex_piece.un hr129
 refine u rfl (x_ldA tag121 rfl (S.loadI hc130) rfl) ?_
 obtain ⟨y131, hy132, H⟩ := obx H
 refine g rfl (cl fb84 (@ih_regex_Expr_compile k (by omega) (T_regex_Expr.mk y109.2.top (y109.2.prog.set y109.1.toNat (T_regex_step.mk y114.op y114.spans y114.all y114.not ((y109.2.prog.length : Int), y114.to_.2)))) y124 _ _ _ _ _ _ _ _ _ _ _ hG S y109_1h1 y109_1h2 h123 y124h1 y124h2 hy132) rfl ?_)
 rintro _ w ⟨y131_0v1, y131_0v2, y131_0v4, cy131_0_4, J133, hJ134, rfl, y131_0h1, y131_0h2, y131_0h4, S⟩
 have hI := hI.trans hJ134
 have hG := hG.mono hJ134
 refine sq <| sr <| u rfl (x_fa tf121_0 rfl) <| u rfl (x_ld tsc3 rfl (S.load 2 rfl 0 rfl)) <| u rfl (x_bin rfl rfl rfl) ?_
 obtain ⟨o149, H, HO150⟩ := obx H
 have hL151 := IMem.le.refl J133
 refine FW.cutN (fun σ w => ∃ (n136 : Int) (l137 : (List T_regex_piece)) (l140 : (List T_regex_span)) (b143 : Bool) (l144 : (List T_regex_step)) (v138 : Value) (v141 : Value) (v145 : Value) (a146 : List Value) (J135 : IMem), (n136, l137, l140, b143, l144) = o149 ∧ Has σ [(0, pt bx0), (8, .int .i64 y109.1)] ∧ J133.le J135 ∧ Own J135 w (.bk bx0 128 [.int .i64 n136, v138, v141, .bool b143, v145] :: .bk b1 121 [.int .i64 x1.kind, x1v1, x1v2, .bool x1.not] :: .av v145 132 6 a146 :: F) ∧ SlR R_regex_piece J135 v138 l137 ∧ SlR R_regex_span J135 v141 l140 ∧ Flat R_regex_step J135 a146 l144) ?_ ?_
 ·by_cases cc152 : x1.kind = 7
  ·rw [if_pos cc152] at H
   refine cT rfl (eqT cc152) <| sq <| FW.anew [(0, pt bx0), (8, .int .i64 y109.1)] ⟨rfl, rfl, trivial⟩ fun σ => rg <| mv (pt bx0) rfl <| u rfl (x_bld tz132 tpl132 rfl (.one rfl PC.nil) rfl) ?_
   obtain ⟨y153, hy154, H⟩ := obx H
   refine g rfl (cl fb117 (@regex_Expr_put.ok k y131 (T_regex_step.mk 1 [] false false (0, 0)) _ _ _ _ _ _ _ _ _ _ hG S y131_0h1 y131_0h2 y131_0h4 (SlR.nil _ _) hy154) rfl ?_)
   rintro _ w ⟨y153_1v1, y153_1v2, y153_1v4, cy153_1_4, J155, hJ156, rfl, y153_1h1, y153_1h2, y153_1h4, S⟩
   have hL151 := hL151.trans hJ156
   refine mv (.int .i64 y153.1) rfl <| rg <| mv (pt bx0) rfl <| u rfl (x_nk rfl) <| u rfl (x_fa tf128_1 rfl) <| u rfl (x_ld tsc126 rfl (S.load 0 rfl 4 rfl)) <| mv (.int .i64 y153.1) rfl <| mv (.int .i64 y109.1) rfl <| mv (.int .i64 y109.1) rfl <| u rfl (x_bldA tar130 tz130 rfl (.one rfl (.one rfl PC.nil)) rfl) ?_
   obtain ⟨y157, h158, H⟩ := obx H
   refine g rfl (o_iaV (r := R_regex_step) tsl126 rfl rfl S 1 rfl y153_1h4 rfl h158 fun b159 cs160 cc161 hv162 hr163 hc164 => ?_)
   obtain ⟨y157v1, rfl, y157h1⟩ := hr163
   refine u rfl (x_fa tf132_4 rfl) <| g rfl (o_stVA (r := R_regex_step) (f := 4) (y' := (T_regex_step.mk y157.op y157.spans y157.all y157.not (y109.1, y109.1))) tag130 rfl S 1 rfl hv162 y153_1h4 h158 ⟨y157v1, rfl, y157h1⟩ hc164 rfl rfl rfl rfl rfl (c1 rfl (c1 rfl c0)) ⟨y157v1, rfl, y157h1⟩ fun w a165 S h166 => ⟨y153.2.top.kind, y153.2.top.parts, y153.2.top.spans, y153.2.top.not, (y153.2.prog.set y153.1.toNat (T_regex_step.mk y157.op y157.spans y157.all y157.not (y109.1, y109.1))), y153_1v1, y153_1v2, y153_1v4, a165, J155, (si H), ⟨rfl, rfl, trivial⟩, hL151, (S.sel 3 [0, 2, 1] rfl), y153_1h1, y153_1h2, h166⟩)
  rw [if_neg cc152] at H
  refine cF rfl (eqF cc152) <| sk ⟨y131.top.kind, y131.top.parts, y131.top.spans, y131.top.not, y131.prog, y131_0v1, y131_0v2, y131_0v4, cy131_0_4, J133, (si H), ⟨rfl, rfl, trivial⟩, hL151, (S.sel 3 [0, 2, 1] rfl), y131_0h1, y131_0h2, y131_0h4⟩
 rintro σ w ⟨n136, l137, l140, b143, l144, v138, v141, v145, a146, J135, ho, hσ, hL151, S, h139, h142, h147⟩
 subst ho
 have H := HO150
 try dsimp only at H
 have hI := hI.trans hL151
 rw [hσ.eq]
 have S := S.drew
 refine FW.regionD mixed ?_
 have hO := Hold.nil (w := { w with drawn := w.drawn + 1 })
 refine am 0 (pt bx0) rfl (by kernel_rfl) hO <| ap 1 rfl (by kernel_rfl) hO (fun w => x_nk rfl) <| ap 2 rfl (by kernel_rfl) hO (fun w => x_fa tf128_1 rfl) ?_
 have hR167 := IMem.le.refl J135
 refine ak (Stab J135 [.bk bx0 128 [.int .i64 n136, v138, v141, .bool b143, v145]]) 3 rfl (by kernel_rfl) hO (Stab.of S 0 rfl hR167) (fun w hS => x_ld tsc126 rfl (hS.load 0 rfl 4 rfl)) fun hO => am 4 (.int .i64 y109.1) rfl (by kernel_rfl) hO <| am 5 (pt bx0) rfl (by kernel_rfl) hO <| ap 6 rfl (by kernel_rfl) hO (fun w => x_nk rfl) <| ap 7 rfl (by kernel_rfl) hO (fun w => x_fa tf128_1 rfl) <| ak (Stab J135 [.bk bx0 128 [.int .i64 n136, v138, v141, .bool b143, v145]]) 8 rfl (by kernel_rfl) hO (Stab.of S 0 rfl hR167) (fun w hS => x_ld tsc126 rfl (hS.load 0 rfl 4 rfl)) fun hO => ap 9 rfl (by kernel_rfl) hO (fun w => x_lenVD (r := R_regex_step) tsl126 rfl rfl S 2 rfl h147 w) ?_
 obtain ⟨y168, h169, H⟩ := obx H
 refine AQ.pureE 10 rfl (by kernel_rfl) (by kernel_rfl) (by kernel_rfl) rfl hO (e_iaVD (r := R_regex_step) tsl126 rfl rfl S 2 rfl h147 rfl h169) ?_
 rintro _ ⟨b170, cs171, cc172, rfl, hv173, hr174, hc175⟩
 obtain ⟨y168v1, rfl, y168h1⟩ := hr174
 refine ap 11 rfl (by kernel_rfl) hO (fun w => x_fa tf132_4 rfl) <| ap 12 rfl (by kernel_rfl) hO (fun w => x_iaA tar130 rfl rfl (by decide) (by decide)) <| AQ.one 13 [8, 3] [false, false] (by kernel_rfl) rfl (by kernel_rfl) <| g rfl (o_stV (r := R_regex_step) (f := 5) (y' := (T_regex_step.mk y168.op y168.spans y168.all y168.not (y168.to_.1, (l144.length : Int)))) tone3 rfl S 2 rfl hv173 h147 h169 ⟨y168v1, rfl, y168h1⟩ hc175 rfl rfl rfl rfl ⟨y168v1, rfl, y168h1⟩ fun w a176 S h177 => andI Hold.nil fun hO => AQ.done (by kernel_rfl) ?_)
 obtain rfl := si H
 exact ⟨_, rfl, ⟨v138, v141, v145, a176, J135, hI, rfl, h139, h142, h177, (S.sel 3 [0, 2] rfl)⟩⟩
theorem regex_Expr_compile.zero : regex_Expr_compile.C 0 := by
  intro _ _ _ _ _ _ _ _ _ _ _ _ _ _ _ _ _ _ _ _ H; cases H
theorem regex_Expr_choices.step (k : Nat) (ih_regex_Expr_compile : ∀ m, m ≤ k → regex_Expr_compile.C m) : regex_Expr_choices.C (k + 1) := by
 intro x0 x1 x0v1 x0v2 x0v4 cx0_4 vx1 bx0 F I w r hG S x0h1 x0h2 x0h4 hx1 H
 have hI := IMem.le.refl I
 rw [regex_Expr_choices.f] at H
 refine Calls.ofFW (args := [pt bx0, vx1]) Tryz.func116 rfl rfl <| sr <| mv ((.slice none 0 0)) rfl <| sq <| sr <| mv vx1 rfl <| u rfl (x_lenD (r := R_regex_piece) tsl118 hx1) <| mv (.int .i64 0) rfl <| bk ?_
 have S := S.nil_tv 3 1
 obtain ⟨o22, hl24, HO23⟩ := obx H
 refine FW.cutX 0 (fun σ w => ∃ (l26 : (List Int)) (n29 : Int) (l30 : (List T_regex_piece)) (l33 : (List T_regex_span)) (b36 : Bool) (l37 : (List T_regex_step)) (v27 : Value) (v31 : Value) (v34 : Value) (v38 : Value) (a39 : List Value) (J25 : IMem), (l26, n29, l30, l33, b36, l37) = o22 ∧ Has σ [(0, pt bx0), (4, v27)] ∧ I.le J25 ∧ Own J25 w (.tv v27 3 1 :: .bk bx0 128 [.int .i64 n29, v31, v34, .bool b36, v38] :: .av v38 132 6 a39 :: F) ∧ SlR (tInt' .i64) J25 v27 l26 ∧ SlR R_regex_piece J25 v31 l30 ∧ SlR R_regex_span J25 v34 l33 ∧ Flat R_regex_step J25 a39 l37) ?_ ?_
 ·refine FW.loop k (FL.ind (fun q σ w => ∃ (l3 : (List Int)) (n6 : Int) (n7 : Int) (l8 : (List T_regex_piece)) (l11 : (List T_regex_span)) (b14 : Bool) (l15 : (List T_regex_step)) (v4 : Value) (v9 : Value) (v12 : Value) (v16 : Value) (a17 : List Value) (J2 : IMem), regex_Expr_choices.l0 q x1 l3 n6 n7 l8 l11 b14 l15 = some o22 ∧ q ≤ k ∧ Has σ [(0, pt bx0), (1, vx1), (4, v4), (10, vx1), (11, .int .i64 (x1.length : Int)), (12, .int .i64 n6)] ∧ I.le J2 ∧ Own J2 w (.tv v4 3 1 :: .bk bx0 128 [.int .i64 n7, v9, v12, .bool b14, v16] :: .av v16 132 6 a17 :: F) ∧ SlR (tInt' .i64) J2 v4 l3 ∧ SlR R_regex_piece J2 v9 l8 ∧ SlR R_regex_span J2 v12 l11 ∧ Flat R_regex_step J2 a17 l15) ?_ ?_ k k _ _ (Nat.le_refl _) ⟨[], 0, x0.top.kind, x0.top.parts, x0.top.spans, x0.top.not, x0.prog, (.slice none 0 0), x0v1, x0v2, x0v4, cx0_4, I, hl24, Nat.le_refl _, ⟨rfl, rfl, rfl, rfl, rfl, rfl, trivial⟩, (IMem.le.refl _), S, (SlR.nil _ _), x0h1, x0h2, x0h4⟩)
  ·rintro σ w ⟨l3, n6, n7, l8, l11, b14, l15, v4, v9, v12, v16, a17, J2, H, _⟩; cases H
  rintro q20 σ w ⟨l3, n6, n7, l8, l11, b14, l15, v4, v9, v12, v16, a17, J2, H, hq42, hσ, hL21, S, h5, h10, h13, h18⟩
  have hx1 := hx1.mono hL21
  have hG := hG.mono hL21
  rw [hσ.eq]
  rw [regex_Expr_choices.l0] at H
  refine sr <| u rfl (x_bin rfl rfl rfl) <| sq ?_
  by_cases cc43 : n6 < (x1.length : Int)
  ·rw [if_pos cc43] at H
   refine cT rfl (deT cc43) <| sk <| sq <| bk <| sr <| mv (.int .i64 n6) rfl ?_
   obtain ⟨y44, h45, H⟩ := obx H
   refine g rfl (o_ia (r := R_regex_piece) tsl118 rfl rfl hx1 rfl h45 fun b46 o47 cs48 hr49 hc50 => ?_)
   obtain ⟨y44v1, y44v2, rfl, y44h1, y44h2⟩ := R_regex_piece.un hr49
   refine u rfl (x_ldA tag121 rfl (S.loadI hc50) rfl) <| g rfl (o_all tz121 S fun b51 w S => mv (.int .i64 n6) rfl (g rfl (o_stA tag121 S 0 rfl rfl rfl rfl (c1 rfl (c1 y44h1.one (c1 y44h2.one (c1 rfl c0)))) rfl fun w S => sq (sq (FW.anew [(0, pt bx0), (1, vx1), (4, v4), (5, .int .i64 n6), (6, pt b51), (10, vx1), (11, .int .i64 (x1.length : Int)), (12, .int .i64 n6)] ⟨rfl, rfl, rfl, rfl, rfl, rfl, rfl, rfl, trivial⟩ fun σ => rg (mv (.int .i64 n6) rfl (mv vx1 rfl (u rfl (x_lenD (r := R_regex_piece) tsl118 hx1) (u rfl (x_bin rfl rfl rfl) (u rfl (x_bin rfl rfl rfl) ?_))))))))))
   by_cases cc52 : n6 = (i64 ((x1.length : Int) - 1))
   ·rw [if_pos cc52] at H
    refine cT rfl (eqT cc52) <| sr <| mv (pt bx0) rfl <| u rfl (x_ldA tag121 rfl (S.loadW 0 rfl) rfl) ?_
    obtain ⟨y53, hy54, H⟩ := obx H
    refine g rfl (cl fb84 (@ih_regex_Expr_compile q20 (by omega) (T_regex_Expr.mk (T_regex_piece.mk n7 l8 l11 b14) l15) y44 _ _ _ _ _ _ _ _ _ _ _ hG (S.sel 4 [2, 3, 0, 1] rfl) h10 h13 h18 y44h1 y44h2 hy54) rfl ?_)
    rintro _ w ⟨y53_0v1, y53_0v2, y53_0v4, cy53_0_4, J55, hJ56, rfl, y53_0h1, y53_0h2, y53_0h4, S⟩
    have h5 := h5.mono hJ56
    have hL21 := hL21.trans hJ56
    refine ex ⟨l3, y53.top.kind, y53.top.parts, y53.top.spans, y53.top.not, y53.prog, v4, y53_0v1, y53_0v2, y53_0v4, cy53_0_4, J55, (si H), ⟨rfl, rfl, trivial⟩, hL21, (S.sel 4 [3, 0, 1] rfl), h5, y53_0h1, y53_0h2, y53_0h4⟩
   rw [if_neg cc52] at H
   refine cF rfl (eqF cc52) <| sk <| sr <| mv (pt bx0) rfl <| u rfl (x_bld tz132 tpl132 rfl (.one rfl PC.nil) rfl) ?_
   obtain ⟨y57, hy58, H⟩ := obx H
   refine g rfl (cl fb117 (@regex_Expr_put.ok q20 (T_regex_Expr.mk (T_regex_piece.mk n7 l8 l11 b14) l15) (T_regex_step.mk 1 [] false false (0, 0)) _ _ _ _ _ _ _ _ _ _ hG (S.sel 4 [2, 3, 0, 1] rfl) h10 h13 h18 (SlR.nil _ _) hy58) rfl ?_)
   rintro _ w ⟨y57_1v1, y57_1v2, y57_1v4, cy57_1_4, J59, hJ60, rfl, y57_1h1, y57_1h2, y57_1h4, S⟩
   have h5 := h5.mono hJ60
   have y44h1 := y44h1.mono hJ60
   have y44h2 := y44h2.mono hJ60
   have hL21 := hL21.trans hJ60
   have hG := hG.mono hJ60
   refine mv (.int .i64 y57.1) rfl <| sq <| FW.anew [(0, pt bx0), (1, vx1), (4, v4), (6, pt b51), (7, .int .i64 y57.1), (10, vx1), (11, .int .i64 (x1.length : Int)), (12, .int .i64 n6)] ⟨rfl, rfl, rfl, rfl, rfl, rfl, rfl, rfl, trivial⟩ fun σ => ?_
   have S := S.drew
   refine FW.regionD mixed ?_
   have hO := Hold.nil (w := { w with drawn := w.drawn + 1 })
   refine am 0 (pt bx0) rfl (by kernel_rfl) hO <| ap 1 rfl (by kernel_rfl) hO (fun w => x_nk rfl) <| ap 2 rfl (by kernel_rfl) hO (fun w => x_fa tf128_1 rfl) ?_
   have hR61 := IMem.le.refl J59
   refine ak (Stab J59 [.bk bx0 128 [.int .i64 y57.2.top.kind, y57_1v1, y57_1v2, .bool y57.2.top.not, y57_1v4]]) 3 rfl (by kernel_rfl) hO (Stab.of S 0 rfl hR61) (fun w hS => x_ld tsc126 rfl (hS.load 0 rfl 4 rfl)) fun hO => am 4 (.int .i64 y57.1) rfl (by kernel_rfl) hO <| am 5 (pt bx0) rfl (by kernel_rfl) hO <| ap 6 rfl (by kernel_rfl) hO (fun w => x_nk rfl) <| ap 7 rfl (by kernel_rfl) hO (fun w => x_fa tf128_1 rfl) <| ak (Stab J59 [.bk bx0 128 [.int .i64 y57.2.top.kind, y57_1v1, y57_1v2, .bool y57.2.top.not, y57_1v4]]) 8 rfl (by kernel_rfl) hO (Stab.of S 0 rfl hR61) (fun w hS => x_ld tsc126 rfl (hS.load 0 rfl 4 rfl)) fun hO => ap 9 rfl (by kernel_rfl) hO (fun w => x_lenVD (r := R_regex_step) tsl126 rfl rfl S 1 rfl y57_1h4 w) ?_
   obtain ⟨y62, h63, H⟩ := obx H
   refine AQ.pureE 10 rfl (by kernel_rfl) (by kernel_rfl) (by kernel_rfl) rfl hO (e_iaVD (r := R_regex_step) tsl126 rfl rfl S 1 rfl y57_1h4 rfl h63) ?_
   rintro _ ⟨b64, cs65, cc66, rfl, hv67, hr68, hc69⟩
   obtain ⟨y62v1, rfl, y62h1⟩ := hr68
   refine ap 11 rfl (by kernel_rfl) hO (fun w => x_fa tf132_4 rfl) <| ap 12 rfl (by kernel_rfl) hO (fun w => x_iaA tar130 rfl rfl (by decide) (by decide)) <| AQ.one 13 [8, 3] [false, false] (by kernel_rfl) rfl (by kernel_rfl) <| g rfl (o_stV (r := R_regex_step) (f := 4) (y' := (T_regex_step.mk y62.op y62.spans y62.all y62.not ((y57.2.prog.length : Int), y62.to_.2))) tone3 rfl S 1 rfl hv67 y57_1h4 h63 ⟨y62v1, rfl, y62h1⟩ hc69 rfl rfl rfl rfl ⟨y62v1, rfl, y62h1⟩ fun w a70 S h71 => andI Hold.nil fun hO => AQ.done (by kernel_rfl) (sq (FW.anew [(0, pt bx0), (1, vx1), (4, v4), (6, pt b51), (7, .int .i64 y57.1), (10, vx1), (11, .int .i64 (x1.length : Int)), (12, .int .i64 n6)] ⟨rfl, rfl, rfl, rfl, rfl, rfl, rfl, rfl, trivial⟩ fun σ => rg (mv (pt bx0) rfl (u rfl (x_ldA tag121 rfl (S.loadW 2 rfl) rfl) ?_)))))
   obtain ⟨y72, hy73, H⟩ := obx H
   refine g rfl (cl fb84 (@ih_regex_Expr_compile q20 (by omega) (T_regex_Expr.mk y57.2.top (y57.2.prog.set y57.1.toNat (T_regex_step.mk y62.op y62.spans y62.all y62.not ((y57.2.prog.length : Int), y62.to_.2)))) y44 _ _ _ _ _ _ _ _ _ _ _ hG S y57_1h1 y57_1h2 h71 y44h1 y44h2 hy73) rfl ?_)
   rintro _ w ⟨y72_0v1, y72_0v2, y72_0v4, cy72_0_4, J74, hJ75, rfl, y72_0h1, y72_0h2, y72_0h4, S⟩
   have h5 := h5.mono hJ75
   have hL21 := hL21.trans hJ75
   have hG := hG.mono hJ75
   refine sr <| mv v4 rfl <| mv (pt bx0) rfl <| u rfl (x_bld tz132 tpl132 rfl (.one rfl PC.nil) rfl) ?_
   obtain ⟨y76, hy77, H⟩ := obx H
   refine g rfl (cl fb117 (@regex_Expr_put.ok q20 y72 (T_regex_step.mk 1 [] false false (0, 0)) _ _ _ _ _ _ _ _ _ _ hG S y72_0h1 y72_0h2 y72_0h4 (SlR.nil _ _) hy77) rfl ?_)
   rintro _ w ⟨y76_1v1, y76_1v2, y76_1v4, cy76_1_4, J78, hJ79, rfl, y76_1h1, y76_1h2, y76_1h4, S⟩
   have h5 := h5.mono hJ79
   have hL21 := hL21.trans hJ79
   refine g rfl (o_bsl tsl161 tz3 rfl rfl rfl rfl (.one rfl PC.nil) rfl S fun b80 w S => ?_)
   obtain ⟨J81, hJ83, S, h82⟩ := S.freeze (r := (tInt' .i64)) (l := [y76.1]) 0 rfl ⟨[.int .i64 y76.1], _, rfl, rfl, rfl⟩ rfl rfl
   have h5 := h5.mono hJ83
   have y76_1h1 := y76_1h1.mono hJ83
   have y76_1h2 := y76_1h2.mono hJ83
   have y76_1h4 := y76_1h4.mono hJ83
   have hL21 := hL21.trans hJ83
   obtain ⟨l84, h86, H⟩ := obx H
   refine g rfl (o_appD (r := (tInt' .i64)) tsl161 rfl tz3 rfl rfl S 4 rfl rfl h5 h82 h86 fun v85 w J88 hJ89 S h87 => ?_)
   have y76_1h1 := y76_1h1.mono hJ89
   have y76_1h2 := y76_1h2.mono hJ89
   have y76_1h4 := y76_1h4.mono hJ89
   have hL21 := hL21.trans hJ89
   refine mv v85 rfl <| FW.anew [(0, pt bx0), (1, vx1), (4, v85), (7, .int .i64 y57.1), (10, vx1), (11, .int .i64 (x1.length : Int)), (12, .int .i64 n6)] ⟨rfl, rfl, rfl, rfl, rfl, rfl, rfl, trivial⟩ fun σ => ?_
   have S := S.drew
   refine FW.regionD mixed ?_
   have hO := Hold.nil (w := { w with drawn := w.drawn + 1 })
   refine am 0 (pt bx0) rfl (by kernel_rfl) hO <| ap 1 rfl (by kernel_rfl) hO (fun w => x_nk rfl) <| ap 2 rfl (by kernel_rfl) hO (fun w => x_fa tf128_1 rfl) ?_
   have hR90 := IMem.le.refl J88
   refine ak (Stab J88 [.bk bx0 128 [.int .i64 y76.2.top.kind, y76_1v1, y76_1v2, .bool y76.2.top.not, y76_1v4]]) 3 rfl (by kernel_rfl) hO (Stab.of S 1 rfl hR90) (fun w hS => x_ld tsc126 rfl (hS.load 0 rfl 4 rfl)) fun hO => am 4 (.int .i64 y57.1) rfl (by kernel_rfl) hO <| am 5 (pt bx0) rfl (by kernel_rfl) hO <| ap 6 rfl (by kernel_rfl) hO (fun w => x_nk rfl) <| ap 7 rfl (by kernel_rfl) hO (fun w => x_fa tf128_1 rfl) <| ak (Stab J88 [.bk bx0 128 [.int .i64 y76.2.top.kind, y76_1v1, y76_1v2, .bool y76.2.top.not, y76_1v4]]) 8 rfl (by kernel_rfl) hO (Stab.of S 1 rfl hR90) (fun w hS => x_ld tsc126 rfl (hS.load 0 rfl 4 rfl)) fun hO => ap 9 rfl (by kernel_rfl) hO (fun w => x_lenVD (r := R_regex_step) tsl126 rfl rfl S 2 rfl y76_1h4 w) ?_
   obtain ⟨y91, h92, H⟩ := obx H
   refine AQ.pureE 10 rfl (by kernel_rfl) (by kernel_rfl) (by kernel_rfl) rfl hO (e_iaVD (r := R_regex_step) tsl126 rfl rfl S 2 rfl y76_1h4 rfl h92) ?_
   rintro _ ⟨b93, cs94, cc95, rfl, hv96, hr97, hc98⟩
   obtain ⟨y91v1, rfl, y91h1⟩ := hr97
   refine ap 11 rfl (by kernel_rfl) hO (fun w => x_fa tf132_4 rfl) <| ap 12 rfl (by kernel_rfl) hO (fun w => x_iaA tar130 rfl rfl (by decide) (by decide)) <| AQ.one 13 [8, 3] [false, false] (by kernel_rfl) rfl (by kernel_rfl) <| g rfl (o_stV (r := R_regex_step) (f := 5) (y' := (T_regex_step.mk y91.op y91.spans y91.all y91.not (y91.to_.1, (y76.2.prog.length : Int)))) tone3 rfl S 2 rfl hv96 y76_1h4 h92 ⟨y91v1, rfl, y91h1⟩ hc98 rfl rfl rfl rfl ⟨y91v1, rfl, y91h1⟩ fun w a99 S h100 => andI Hold.nil fun hO => AQ.done (by kernel_rfl) (FW.anew [(0, pt bx0), (1, vx1), (4, v85), (10, vx1), (11, .int .i64 (x1.length : Int)), (12, .int .i64 n6)] ⟨rfl, rfl, rfl, rfl, rfl, rfl, trivial⟩ fun σ => rg (u rfl (x_bin rfl rfl rfl) (mv (.int .i64 (i64 (n6 + 1))) rfl ⟨q20, Nat.le_refl _, l84, (i64 (n6 + 1)), y76.2.top.kind, y76.2.top.parts, y76.2.top.spans, y76.2.top.not, (y76.2.prog.set y57.1.toNat (T_regex_step.mk y91.op y91.spans y91.all y91.not (y91.to_.1, (y76.2.prog.length : Int)))), v85, y76_1v1, y76_1v2, y76_1v4, a99, J88, H, (Nat.le_of_succ_le hq42), ⟨rfl, rfl, rfl, rfl, rfl, rfl, trivial⟩, hL21, (S.sel 5 [4, 1, 2] rfl), h87, y76_1h1, y76_1h2, h100⟩))))
  rw [if_neg cc43] at H
  refine cF rfl (deF cc43) <| ex ⟨l3, n7, l8, l11, b14, l15, v4, v9, v12, v16, a17, J2, (si H), ⟨rfl, rfl, trivial⟩, hL21, S, h5, h10, h13, h18⟩
 rintro σ w ⟨l26, n29, l30, l33, b36, l37, v27, v31, v34, v38, a39, J25, ho, hσ, hL21, S, h28, h32, h35, h40⟩
 subst ho
 have H := HO23
 try dsimp only at H
 have hI := hI.trans hL21
 rw [hσ.eq]
 refine sr <| mv v27 rfl <| u rfl (x_lenD (r := (tInt' .i64)) tsl161 h28) <| mv (.int .i64 0) rfl <| bk ?_
 obtain ⟨o110, hl112, HO111⟩ := obx H
 refine FW.cutX 2 (fun σ w => ∃ (l114 : (List T_regex_step)) (v115 : Value) (a116 : List Value) (J113 : IMem), l114 = o110 ∧ Has σ [] ∧ J25.le J113 ∧ Own J113 w (.bk bx0 128 [.int .i64 n29, v31, v34, .bool b36, v115] :: .av v115 132 6 a116 :: F) ∧ Flat R_regex_step J113 a116 l114) ?_ ?_
 ·refine FW.loop k (FL.ind (fun q σ w => ∃ (n102 : Int) (l103 : (List T_regex_step)) (v104 : Value) (a105 : List Value) (J101 : IMem), regex_Expr_choices.l1 q l26 n102 l103 = some o110 ∧ q ≤ k ∧ Has σ [(0, pt bx0), (64, v27), (65, .int .i64 (l26.length : Int)), (66, .int .i64 n102)] ∧ J25.le J101 ∧ Own J101 w (.tv v27 3 1 :: .bk bx0 128 [.int .i64 n29, v31, v34, .bool b36, v104] :: .av v104 132 6 a105 :: F) ∧ Flat R_regex_step J101 a105 l103) ?_ ?_ k k _ _ (Nat.le_refl _) ⟨0, l37, v38, a39, J25, hl112, Nat.le_refl _, ⟨rfl, rfl, rfl, rfl, trivial⟩, (IMem.le.refl _), S, h40⟩)
  ·rintro σ w ⟨n102, l103, v104, a105, J101, H, _⟩; cases H
  rintro q108 σ w ⟨n102, l103, v104, a105, J101, H, hq119, hσ, hL109, S, h106⟩
  have h28 := h28.mono hL109
  rw [hσ.eq]
  rw [regex_Expr_choices.l1] at H
  refine sr <| u rfl (x_bin rfl rfl rfl) <| sq ?_
  by_cases cc120 : n102 < (l26.length : Int)
  ·rw [if_pos cc120] at H
   refine cT rfl (deT cc120) <| sk <| sq <| bk <| sq <| rg ?_
   obtain ⟨y121, h122, H⟩ := obx H
   refine g rfl (o_ia (r := (tInt' .i64)) tsl161 rfl rfl h28 rfl h122 fun b123 o124 cs125 hr126 hc127 => ?_)
   obtain rfl := hr126
   refine u rfl (x_ld tsc3 rfl (S.cell _ _ _ (hc127 0 _ rfl))) <| mv (.int .i64 y121) rfl ?_
   have S := S.drew
   refine FW.regionD mixed ?_
   have hO := Hold.nil (w := { w with drawn := w.drawn + 1 })
   refine am 0 (pt bx0) rfl (by kernel_rfl) hO <| ap 1 rfl (by kernel_rfl) hO (fun w => x_nk rfl) <| ap 2 rfl (by kernel_rfl) hO (fun w => x_fa tf128_1 rfl) ?_
   have hR128 := IMem.le.refl J101
   refine ak (Stab J101 [.bk bx0 128 [.int .i64 n29, v31, v34, .bool b36, v104]]) 3 rfl (by kernel_rfl) hO (Stab.of S 1 rfl hR128) (fun w hS => x_ld tsc126 rfl (hS.load 0 rfl 4 rfl)) fun hO => am 4 (.int .i64 y121) rfl (by kernel_rfl) hO <| am 5 (pt bx0) rfl (by kernel_rfl) hO <| ap 6 rfl (by kernel_rfl) hO (fun w => x_nk rfl) <| ap 7 rfl (by kernel_rfl) hO (fun w => x_fa tf128_1 rfl) <| ak (Stab J101 [.bk bx0 128 [.int .i64 n29, v31, v34, .bool b36, v104]]) 8 rfl (by kernel_rfl) hO (Stab.of S 1 rfl hR128) (fun w hS => x_ld tsc126 rfl (hS.load 0 rfl 4 rfl)) fun hO => ap 9 rfl (by kernel_rfl) hO (fun w => x_lenVD (r := R_regex_step) tsl126 rfl rfl S 2 rfl h106 w) <| am 10 (pt bx0) rfl (by kernel_rfl) hO <| ap 11 rfl (by kernel_rfl) hO (fun w => x_nk rfl) <| ap 12 rfl (by kernel_rfl) hO (fun w => x_fa tf128_1 rfl) <| ak (Stab J101 [.bk bx0 128 [.int .i64 n29, v31, v34, .bool b36, v104]]) 13 rfl (by kernel_rfl) hO (Stab.of S 1 rfl hR128) (fun w hS => x_ld tsc126 rfl (hS.load 0 rfl 4 rfl)) fun hO => ap 14 rfl (by kernel_rfl) hO (fun w => x_lenVD (r := R_regex_step) tsl126 rfl rfl S 2 rfl h106 w) <| ap 15 rfl (by kernel_rfl) hO (fun w => x_bldA tar130 tz130 rfl (.one rfl (.one rfl PC.nil)) rfl) ?_
   obtain ⟨y129, h130, H⟩ := obx H
   refine AQ.pureE 16 rfl (by kernel_rfl) (by kernel_rfl) (by kernel_rfl) rfl hO (e_iaVD (r := R_regex_step) tsl126 rfl rfl S 2 rfl h106 rfl h130) ?_
   rintro _ ⟨b131, cs132, cc133, rfl, hv134, hr135, hc136⟩
   obtain ⟨y129v1, rfl, y129h1⟩ := hr135
   refine ap 17 rfl (by kernel_rfl) hO (fun w => x_fa tf132_4 rfl) <| AQ.one 18 [13, 8, 3] [false, false, false] (by kernel_rfl) rfl (by kernel_rfl) <| g rfl (o_stVA (r := R_regex_step) (f := 4) (y' := (T_regex_step.mk y129.op y129.spans y129.all y129.not ((l103.length : Int), (l103.length : Int)))) tag130 rfl S 2 rfl hv134 h106 h130 ⟨y129v1, rfl, y129h1⟩ hc136 rfl rfl rfl rfl rfl (c1 rfl (c1 rfl c0)) ⟨y129v1, rfl, y129h1⟩ fun w a137 S h138 => andI Hold.nil fun hO => AQ.done (by kernel_rfl) (FW.anew [(0, pt bx0), (64, v27), (65, .int .i64 (l26.length : Int)), (66, .int .i64 n102)] ⟨rfl, rfl, rfl, rfl, trivial⟩ fun σ => rg (u rfl (x_bin rfl rfl rfl) (mv (.int .i64 (i64 (n102 + 1))) rfl ⟨q108, Nat.le_refl _, (i64 (n102 + 1)), (l103.set y121.toNat (T_regex_step.mk y129.op y129.spans y129.all y129.not ((l103.length : Int), (l103.length : Int)))), v104, a137, J101, H, (Nat.le_of_succ_le hq119), ⟨rfl, rfl, rfl, rfl, trivial⟩, hL109, S, h138⟩))))
  rw [if_neg cc120] at H
  refine cF rfl (deF cc120) <| ex ⟨l103, v104, a105, J101, (si H), trivial, hL109, (S.sel 3 [1, 2] rfl), h106⟩
 rintro σ w ⟨l114, v115, a116, J113, ho, hσ, hL109, S, h117⟩
 subst ho
 have H := HO111
 have h32 := h32.mono hL109
 have h35 := h35.mono hL109
 have hI := hI.trans hL109
 rw [hσ.eq]
 obtain rfl := si H
 exact ⟨_, rfl, ⟨v31, v34, v115, a116, J113, hI, rfl, h32, h35, h117, S⟩⟩
theorem regex_Expr_choices.zero : regex_Expr_choices.C 0 := by
  intro _ _ _ _ _ _ _ _ _ _ _ _ _ _ _ _ _ _ H; cases H
theorem regex_Expr_compile.grp : ∀ k m, m ≤ k → regex_Expr_compile.C m ∧ regex_Expr_choices.C m
  | 0, m, h => by
    obtain rfl : m = 0 := by omega
    exact ⟨regex_Expr_compile.zero, regex_Expr_choices.zero⟩
  | k + 1, 0, _ => ⟨regex_Expr_compile.zero, regex_Expr_choices.zero⟩
  | k + 1, m + 1, h => ⟨regex_Expr_compile.step m (fun i hi => (regex_Expr_compile.grp k i (by omega)).1) (fun i hi => (regex_Expr_compile.grp k i (by omega)).2), regex_Expr_choices.step m (fun i hi => (regex_Expr_compile.grp k i (by omega)).1)⟩
theorem regex_Expr_compile.ok (k : Nat) : regex_Expr_compile.C k := (regex_Expr_compile.grp k k (Nat.le_refl k)).1
def regex_Parse.f (k : Nat) (x0 : ByteArray) : Option ((Option T_regex_Expr) × Int) := (if (x0.size : Int) > 100 then (some (none, 4)) else ((regex_signs.f k x0).bind fun y2 => (if y2.2 = true then ((regex_reader_choices.f k (T_regex_reader.mk y2.1 false)).bind fun y8 => ((regex_reader_peek.f k y8.2).bind fun y13 => (if y13.2.bad = true then (some (none, 14)) else (if y13.1.digits = true then (some (none, 14)) else (if y13.1.c = 0 then ((regex_Expr_compile.f k (T_regex_Expr.mk y8.1 []) y8.1).bind fun y23 => ((app 56 y23.prog ([(T_regex_step.mk 4 [] false false (0, 0))])).bind fun l31 => (some ((some (T_regex_Expr.mk y23.top l31)), 0)))) else (some (none, 14))))))) else (some (none, 14)))))
abbrev regex_Parse.C (k : Nat) : Prop := ∀ {x0 : ByteArray} {F : List It} {I : IMem} {w : World} {r : (Option T_regex_Expr) × Int}, Glob I → Own I w (F) → regex_Parse.f k x0 = some r →
    Calls Tryz.prog 43 #[.string x0] w fun e w' => ∃ v, e = .returned v ∧ ∃ (vy_0 : Value) (J : IMem), I.le J ∧ v = .tuple #[vy_0, .int .i64 r.2] ∧ PtR R_regex_Expr J vy_0 r.1 ∧ Own J w' (F)
theorem regex_Parse.ok (k : Nat) : regex_Parse.C k := by
 intro x0 F I w r hG S H
 have hI := IMem.le.refl I
 rw [regex_Parse.f] at H
 refine Calls.ofFW (args := [.string x0]) Tryz.func43 rfl rfl <| sr <| mv (.pointer none) rfl <| mv (.int .i64 0) rfl <| sq <| sr <| mv (.string x0) rfl <| u rfl (x_lens tstr9 rfl) <| u rfl (x_bin rfl rfl rfl) ?_
 by_cases cc1 : (x0.size : Int) > 100
 ·rw [if_pos cc1] at H
  refine cT rfl (deT cc1) <| sr <| mv (.pointer none) rfl <| mv (.int .i64 4) rfl <| rt ?_
  obtain rfl := si H
  exact ⟨_, ⟨_, rfl, ⟨_, rfl, rfl⟩⟩, ⟨(.pointer none), I, hI, rfl, (PtR.nil _ _), S⟩⟩
 rw [if_neg cc1] at H
 refine cF rfl (deF cc1) <| sk <| sr <| mv (.string x0) rfl ?_
 obtain ⟨y2, hy3, H⟩ := obx H
 refine g rfl (cl fb81 (@regex_signs.ok k x0 _ _ _ _ hG S hy3) rfl ?_)
 rintro _ w ⟨vy2_0, J4, hJ5, rfl, hy2_0, S⟩
 have hI := hI.trans hJ5
 have hG := hG.mono hJ5
 refine mv (.tuple #[vy2_0, .bool y2.2]) rfl <| u rfl (x_ext rfl rfl) <| u rfl (x_ext rfl rfl) <| mv vy2_0 rfl <| mv (.bool y2.2) rfl <| sq <| sq <| FW.anew [(4, vy2_0), (5, .bool y2.2)] ⟨rfl, rfl, trivial⟩ fun σ => rg <| mv (.bool y2.2) rfl <| u rfl (x_not' rfl) ?_
 by_cases cc6 : y2.2 = true
 ·rw [if_pos cc6] at H
  refine cF rfl (noF cc6) <| sk <| sr <| mv vy2_0 rfl <| u rfl (x_bld tz117 tpl117 rfl (.one hy2_0.one PC.nil) rfl) <| g rfl (o_boxA rfl S fun b7 w S => mv (pt b7) rfl (sq (rg (mv (pt b7) rfl ?_))))
  obtain ⟨y8, hy9, H⟩ := obx H
  refine g rfl (cl fb82 (@regex_reader_choices.ok k (T_regex_reader.mk y2.1 false) _ _ _ _ _ _ hG S hy2_0 hy9) rfl ?_)
  rintro _ w ⟨y8_0v1, y8_0v2, y8_1v0, J10, hJ11, rfl, y8_0h1, y8_0h2, y8_1h0, S⟩
  have hI := hI.trans hJ11
  have hG := hG.mono hJ11
  refine g rfl (o_all tz121 S fun b12 w S => g rfl (o_stA tag121 S 0 rfl rfl rfl rfl (c1 rfl (c1 y8_0h1.one (c1 y8_0h2.one (c1 rfl c0)))) rfl fun w S => sq (sq (FW.anew [(6, pt b7), (7, pt b12)] ⟨rfl, rfl, trivial⟩ fun σ => rg (mv (pt b7) rfl ?_)))))
  obtain ⟨y13, hy14, H⟩ := obx H
  refine g rfl (cl fb83 (@regex_reader_peek.ok k y8.2 _ _ _ _ _ _ hG (S.sel 3 [1, 0, 2] rfl) y8_1h0 hy14) rfl ?_)
  rintro _ w ⟨y13_1v0, J15, hJ16, rfl, y13_1h0, S⟩
  have y8_0h1 := y8_0h1.mono hJ16
  have y8_0h2 := y8_0h2.mono hJ16
  have hI := hI.trans hJ16
  have hG := hG.mono hJ16
  refine g rfl (o_all tz124 S fun b17 w S => g rfl (o_stA tag124 S 0 rfl rfl rfl rfl (c1 rfl (c1 rfl (c1 rfl c0))) rfl fun w S => sq (rg (mv (pt b7) rfl (u rfl (x_nk rfl) (u rfl (x_fa tf117_1 rfl) (u rfl (x_ld tsc4 rfl (S.load 1 rfl 1 rfl)) (mv (.bool y13.2.bad) rfl ?_))))))))
  by_cases cc18 : y13.2.bad = true
  ·rw [if_pos cc18] at H
   refine gn rfl rfl rfl cc18 <| gn rfl rfl rfl cc18 <| u rfl (x_pickTV (v := .bool true) rfl cc18 rfl) <| mv (.bool true) rfl <| gn rfl rfl rfl rfl <| gn rfl rfl rfl rfl <| gn rfl rfl rfl rfl <| u rfl (x_pickTV (v := .bool true) rfl rfl rfl) <| cT rfl rfl <| sq <| FW.anew [] trivial fun σ => rg <| mv (.pointer none) rfl <| mv (.int .i64 14) rfl <| rt ?_
   obtain rfl := si H
   exact ⟨_, ⟨_, rfl, ⟨_, rfl, rfl⟩⟩, ⟨(.pointer none), J15, hI, rfl, (PtR.nil _ _), (S.sel 4 [] rfl)⟩⟩
  rw [if_neg cc18] at H
  refine gu rfl rfl rfl (vaF cc18) (x_fa tf124_2 rfl) <| gu rfl rfl rfl (vaF cc18) (x_ld tsc4 rfl (S.load 0 rfl 2 rfl)) <| u rfl (x_pickFV (v := .bool y13.1.digits) rfl (vaF cc18) rfl) <| mv (.bool y13.1.digits) rfl ?_
  by_cases cc19 : y13.1.digits = true
  ·rw [if_pos cc19] at H
   refine gn rfl rfl rfl cc19 <| gn rfl rfl rfl cc19 <| gn rfl rfl rfl cc19 <| u rfl (x_pickTV (v := .bool true) rfl cc19 rfl) <| cT rfl rfl <| sq <| FW.anew [] trivial fun σ => rg <| mv (.pointer none) rfl <| mv (.int .i64 14) rfl <| rt ?_
   obtain rfl := si H
   exact ⟨_, ⟨_, rfl, ⟨_, rfl, rfl⟩⟩, ⟨(.pointer none), J15, hI, rfl, (PtR.nil _ _), (S.sel 4 [] rfl)⟩⟩
  rw [if_neg cc19] at H
  refine gu rfl rfl rfl (vaF cc19) (x_fa tf124_0 rfl) <| gu rfl rfl rfl (vaF cc19) (x_ld tsc21 rfl (S.load 0 rfl 0 rfl)) <| gu rfl rfl rfl (vaF cc19) (x_bin rfl rfl rfl) <| u rfl (x_pickFV (v := .bool (y13.1.c != 0)) rfl (vaF cc19) rfl) ?_
  by_cases cc20 : y13.1.c = 0
  ·rw [if_pos cc20] at H
   refine cF rfl (neF cc20) <| sk <| sq <| FW.anew [(7, pt b12)] ⟨rfl, trivial⟩ fun σ => rg <| u rfl (x_ldA tag121 rfl (S.loadW 2 rfl) rfl) <| u rfl (x_bld tz128 tpl128 rfl (.agg PC.nil) rfl) <| g rfl (o_boxA rfl S fun b21 w S => mv (pt b21) rfl (sq (rg (mv (pt b21) rfl (u rfl (x_ldA tag121 rfl (S.loadW 3 rfl) rfl) ?_)))))
   have S := S.nil_av 132 6
   obtain ⟨y23, hy24, H⟩ := obx H
   refine g rfl (cl fb84 (@regex_Expr_compile.ok k (T_regex_Expr.mk y8.1 []) y8.1 _ _ _ _ _ _ _ _ _ _ _ hG (S.sel 6 [1, 0, 2, 3, 4, 5] rfl) y8_0h1 y8_0h2 (Flat.nil' _ _) y8_0h1 y8_0h2 hy24) rfl ?_)
   rintro _ w ⟨y23_0v1, y23_0v2, y23_0v4, cy23_0_4, J25, hJ26, rfl, y23_0h1, y23_0h2, y23_0h4, S⟩
   have hI := hI.trans hJ26
   refine sq <| FW.anew [(9, pt b21)] ⟨rfl, trivial⟩ fun σ => rg <| mv (pt b21) rfl <| mv (pt b21) rfl <| u rfl (x_nk rfl) <| u rfl (x_fa tf128_1 rfl) <| u rfl (x_ld tsc126 rfl (S.load 0 rfl 4 rfl)) <| u rfl (x_bld tz132 tpl132 rfl (.one rfl PC.nil) rfl) <| g rfl (o_bsl tsl126 tz132 rfl rfl rfl rfl (.agg PC.nil) rfl S fun b27 w S => ?_)
   obtain ⟨J28, hJ30, S, h29⟩ := S.freeze (r := R_regex_step) (l := [(T_regex_step.mk 4 [] false false (0, 0))]) 0 rfl ⟨[.int .i64 4, (.slice none 0 0), .bool false, .bool false, .int .i64 0, .int .i64 0], _, rfl, ⟨(.slice none 0 0), rfl, (SlR.nil _ _)⟩, rfl⟩ rfl rfl
   have y23_0h1 := y23_0h1.mono hJ30
   have y23_0h2 := y23_0h2.mono hJ30
   have y23_0h4 := y23_0h4.mono hJ30
   have hI := hI.trans hJ30
   obtain ⟨l31, h33, H⟩ := obx H
   refine g rfl (o_appV (r := R_regex_step) tsl126 rfl tz132 rfl rfl S 2 rfl rfl y23_0h4 h29 h33 fun v32 w a35 S h34 => u rfl (x_nk rfl) (u rfl (x_fa tf128_1 rfl) (g rfl (o_st tone126 S 1 rfl rfl rfl (av_one S 2 rfl) fun w S => sq (FW.anew [(9, pt b21)] ⟨rfl, trivial⟩ fun σ => rg (mv (pt b21) rfl (mv (pt b21) rfl (mv (.int .i64 0) rfl (rt ?_)))))))))
   obtain ⟨J36, hJ38, S, h37⟩ := S.freeze (r := R_regex_step) (l := l31) 2 rfl h34 rfl rfl
   have y23_0h1 := y23_0h1.mono hJ38
   have y23_0h2 := y23_0h2.mono hJ38
   have hI := hI.trans hJ38
   obtain ⟨J39, hJ41, S, h40⟩ := S.freezeB (r := R_regex_Expr) (x := (T_regex_Expr.mk y23.top l31)) 1 rfl ⟨y23_0v1, y23_0v2, v32, rfl, y23_0h1, y23_0h2, h37⟩
   have hI := hI.trans hJ41
   obtain rfl := si H
   exact ⟨_, ⟨_, rfl, ⟨_, rfl, rfl⟩⟩, ⟨(pt b21), J39, hI, rfl, h40, (S.sel 6 [] rfl)⟩⟩
  rw [if_neg cc20] at H
  refine cT rfl (neT cc20) <| sq <| FW.anew [] trivial fun σ => rg <| mv (.pointer none) rfl <| mv (.int .i64 14) rfl <| rt ?_
  obtain rfl := si H
  exact ⟨_, ⟨_, rfl, ⟨_, rfl, rfl⟩⟩, ⟨(.pointer none), J15, hI, rfl, (PtR.nil _ _), (S.sel 4 [] rfl)⟩⟩
 rw [if_neg cc6] at H
 refine cT rfl (noT (vaF cc6)) <| sr <| mv (.pointer none) rfl <| mv (.int .i64 14) rfl <| rt ?_
 obtain rfl := si H
 exact ⟨_, ⟨_, rfl, ⟨_, rfl, rfl⟩⟩, ⟨(.pointer none), J4, hI, rfl, (PtR.nil _ _), (S.sel 1 [] rfl)⟩⟩
def policy_RightCond.f (k : Nat) (x0 : T_api_Cond) : Option Bool := ((if x0.Kind = 0 then (some (x0.Kind == 0)) else (some (x0.Kind == 5))).bind fun b3 => (if b3 = true then (some true) else (if x0.Kind = 1 then (if (x0.Range.length : Int) ≤ 16 then ((slices_ContainsFunc_42_w140.f k x0.Range).bind fun y11 => (some (!y11))) else (some false)) else (if x0.Kind = 2 then ((regex_Parse.f k x0.Text).bind fun y14 => (some (y14.2 == 0))) else (if x0.Kind = 3 then (some (decide ((x0.Comms.length : Int) ≤ 32))) else (if x0.Kind = 4 then (if x0.Num ≥ 0 then (some (decide (x0.Num ≤ 64))) else (some false)) else (if x0.Kind = 6 then (if x0.Num ≥ 0 then (some (decide (x0.Num ≤ 2))) else (some false)) else (some false))))))))
abbrev policy_RightCond.C (k : Nat) : Prop := ∀ {x0 : T_api_Cond} {x0v5 : Value} {x0v6 : Value} {F : List It} {I : IMem} {w : World} {r : Bool}, Glob I → Own I w (F) → SlR R_api_Range I x0v5 x0.Range → SlR (tInt' .u32) I x0v6 x0.Comms → policy_RightCond.f k x0 = some r →
    Calls Tryz.prog 14 #[.agg #[.int .i64 x0.Kind, .bool x0.Not, .int .i64 x0.Num, .int .u32 x0.Addr, .string x0.Text, x0v5, x0v6]] w fun e w' => ∃ v, e = .returned v ∧ v = .bool r ∧ Own I w' (F)
theorem policy_RightCond.ok (k : Nat) : policy_RightCond.C k := by
 intro x0 x0v5 x0v6 F I w r hG S x0h5 x0h6 H
 have hI := IMem.le.refl I
 rw [policy_RightCond.f] at H
 refine Calls.ofFW (args := [.agg #[.int .i64 x0.Kind, .bool x0.Not, .int .i64 x0.Num, .int .u32 x0.Addr, .string x0.Text, x0v5, x0v6]]) Tryz.func14 rfl rfl <| sr <| g rfl (o_boxA rfl S fun b1 w S => mv (.bool false) rfl (sq (sq (rg (u rfl (x_fa tf27_0 rfl) (u rfl (x_ld tsc3 rfl (S.load 0 rfl 0 rfl)) (bk (sq (sq (rg (u rfl (x_bin rfl rfl rfl) (mv (.bool (x0.Kind == 0)) rfl ?_))))))))))))
 obtain ⟨o4, H, HO5⟩ := obx H
 have hL6 := IMem.le.refl I
 refine FW.cutN (fun σ w => ∃ (b3 : Bool) (J2 : IMem), b3 = o4 ∧ Has σ [(1, pt b1), (7, .int .i64 x0.Kind), (8, .bool b3)] ∧ I.le J2 ∧ Own J2 w (.bk b1 27 [.int .i64 x0.Kind, .bool x0.Not, .int .i64 x0.Num, .int .u32 x0.Addr, .string x0.Text, x0v5, x0v6] :: F)) ?_ ?_
 ·by_cases cc7 : x0.Kind = 0
  ·rw [if_pos cc7] at H
   refine cT rfl (eqT cc7) <| sk ⟨(x0.Kind == 0), I, (si H), ⟨rfl, rfl, rfl, trivial⟩, hL6, S⟩
  rw [if_neg cc7] at H
  refine cF rfl (eqF cc7) <| rg <| u rfl (x_bin rfl rfl rfl) <| mv (.bool (x0.Kind == 5)) rfl ⟨(x0.Kind == 5), I, (si H), ⟨rfl, rfl, rfl, trivial⟩, hL6, S⟩
 rintro σ w ⟨b3, J2, ho, hσ, hL6, S⟩
 subst ho
 have H := HO5
 have x0h5 := x0h5.mono hL6
 have x0h6 := x0h6.mono hL6
 have hI := hI.trans hL6
 have hG := hG.mono hL6
 rw [hσ.eq]
 by_cases cc8 : b3 = true
 ·rw [if_pos cc8] at H
  refine cT rfl cc8 <| sr <| mv (.bool true) rfl <| rt ?_
  obtain rfl := si H
  exact ⟨_, ⟨_, rfl, rfl⟩, ⟨rfl, ((S.sel 1 [] rfl).weaken hI)⟩⟩
 rw [if_neg cc8] at H
 refine cF rfl (vaF cc8) <| sr <| u rfl (x_bin rfl rfl rfl) <| mv (.bool (x0.Kind == 1)) rfl ?_
 by_cases cc9 : x0.Kind = 1
 ·rw [if_pos cc9] at H
  refine cT rfl (eqT cc9) <| sr <| mv (.func (.func 40) #[] #[]) rfl <| sr <| u rfl (x_fa tf27_5 rfl) <| u rfl (x_ld tsc24 rfl (S.load 0 rfl 5 rfl)) <| u rfl (x_lenD (r := R_api_Range) tsl24 x0h5) <| u rfl (x_bin rfl rfl rfl) <| mv (.bool (decide ((x0.Range.length : Int) ≤ 16))) rfl ?_
  by_cases cc10 : (x0.Range.length : Int) ≤ 16
  ·rw [if_pos cc10] at H
   refine gu rfl rfl rfl (deT cc10) (x_fa tf27_5 rfl) <| gu rfl rfl rfl (deT cc10) (x_ld tsc24 rfl (S.load 0 rfl 5 rfl)) <| gu rfl rfl rfl (deT cc10) (x_movV (v := .func (.func 40) #[] #[]) rfl) ?_
   obtain ⟨y11, hy12, H⟩ := obx H
   refine OK.gt rfl rfl rfl (deT cc10) (cl fb42 (@slices_ContainsFunc_42_w140.ok k x0.Range _ _ _ _ _ hG S x0h5 hy12) rfl ?_)
   rintro _ w ⟨rfl, S⟩
   refine gu rfl rfl rfl (deT cc10) (x_not' rfl) <| u rfl (x_pickTV (v := .bool (!y11)) rfl (deT cc10) rfl) <| mv (.bool (!y11)) rfl <| rt ?_
   obtain rfl := si H
   exact ⟨_, ⟨_, rfl, rfl⟩, ⟨rfl, ((S.sel 1 [] rfl).weaken hI)⟩⟩
  rw [if_neg cc10] at H
  refine gn rfl rfl rfl (deF cc10) <| gn rfl rfl rfl (deF cc10) <| gn rfl rfl rfl (deF cc10) <| gn rfl rfl rfl (deF cc10) <| gn rfl rfl rfl (deF cc10) <| u rfl (x_pickFV (v := .bool false) rfl (deF cc10) rfl) <| mv (.bool false) rfl <| rt ?_
  obtain rfl := si H
  exact ⟨_, ⟨_, rfl, rfl⟩, ⟨rfl, ((S.sel 1 [] rfl).weaken hI)⟩⟩
 rw [if_neg cc9] at H
 refine cF rfl (eqF cc9) <| sr <| u rfl (x_bin rfl rfl rfl) <| mv (.bool (x0.Kind == 2)) rfl ?_
 by_cases cc13 : x0.Kind = 2
 ·rw [if_pos cc13] at H
  refine cT rfl (eqT cc13) <| sr <| u rfl (x_fa tf27_4 rfl) <| u rfl (x_ld tsc9 rfl (S.load 0 rfl 4 rfl)) ?_
  obtain ⟨y14, hy15, H⟩ := obx H
  refine g rfl (cl fb43 (@regex_Parse.ok k x0.Text _ _ _ _ hG S hy15) rfl ?_)
  rintro _ w ⟨vy14_0, J16, hJ17, rfl, hy14_0, S⟩
  have hI := hI.trans hJ17
  refine mv (.tuple #[vy14_0, .int .i64 y14.2]) rfl <| u rfl (x_ext rfl rfl) <| u rfl (x_ext rfl rfl) <| mv vy14_0 rfl <| mv (.int .i64 y14.2) rfl <| sq <| FW.anew [(5, .int .i64 y14.2)] ⟨rfl, trivial⟩ fun σ => rg <| mv (.int .i64 y14.2) rfl <| u rfl (x_bin rfl rfl rfl) <| mv (.bool (y14.2 == 0)) rfl <| rt ?_
  obtain rfl := si H
  exact ⟨_, ⟨_, rfl, rfl⟩, ⟨rfl, ((S.sel 1 [] rfl).weaken hI)⟩⟩
 rw [if_neg cc13] at H
 refine cF rfl (eqF cc13) <| sr <| u rfl (x_bin rfl rfl rfl) <| mv (.bool (x0.Kind == 3)) rfl ?_
 by_cases cc18 : x0.Kind = 3
 ·rw [if_pos cc18] at H
  refine cT rfl (eqT cc18) <| sr <| u rfl (x_fa tf27_6 rfl) <| u rfl (x_ld tsc25 rfl (S.load 0 rfl 6 rfl)) <| u rfl (x_lenD (r := (tInt' .u32)) tsl25 x0h6) <| u rfl (x_bin rfl rfl rfl) <| mv (.bool (decide ((x0.Comms.length : Int) ≤ 32))) rfl <| rt ?_
  obtain rfl := si H
  exact ⟨_, ⟨_, rfl, rfl⟩, ⟨rfl, ((S.sel 1 [] rfl).weaken hI)⟩⟩
 rw [if_neg cc18] at H
 refine cF rfl (eqF cc18) <| sr <| u rfl (x_bin rfl rfl rfl) <| mv (.bool (x0.Kind == 4)) rfl ?_
 by_cases cc19 : x0.Kind = 4
 ·rw [if_pos cc19] at H
  refine cT rfl (eqT cc19) <| sq <| FW.anew [(1, pt b1)] ⟨rfl, trivial⟩ fun σ => rg <| u rfl (x_fa tf27_2 rfl) <| u rfl (x_ld tsc3 rfl (S.load 0 rfl 2 rfl)) <| u rfl (x_bin rfl rfl rfl) <| mv (.bool (decide (x0.Num ≥ 0))) rfl ?_
  by_cases cc20 : x0.Num ≥ 0
  ·rw [if_pos cc20] at H
   refine gu rfl rfl rfl (deT cc20) (x_fa tf27_2 rfl) <| gu rfl rfl rfl (deT cc20) (x_ld tsc3 rfl (S.load 0 rfl 2 rfl)) <| gu rfl rfl rfl (deT cc20) (x_bin rfl rfl rfl) <| u rfl (x_pickTV (v := .bool (decide (x0.Num ≤ 64))) rfl (deT cc20) rfl) <| mv (.bool (decide (x0.Num ≤ 64))) rfl <| rt ?_
   obtain rfl := si H
   exact ⟨_, ⟨_, rfl, rfl⟩, ⟨rfl, ((S.sel 1 [] rfl).weaken hI)⟩⟩
  rw [if_neg cc20] at H
  refine gn rfl rfl rfl (deF cc20) <| gn rfl rfl rfl (deF cc20) <| gn rfl rfl rfl (deF cc20) <| u rfl (x_pickFV (v := .bool false) rfl (deF cc20) rfl) <| mv (.bool false) rfl <| rt ?_
  obtain rfl := si H
  exact ⟨_, ⟨_, rfl, rfl⟩, ⟨rfl, ((S.sel 1 [] rfl).weaken hI)⟩⟩
 rw [if_neg cc19] at H
 refine cF rfl (eqF cc19) <| sq <| FW.anew [(1, pt b1), (7, .int .i64 x0.Kind)] ⟨rfl, rfl, trivial⟩ fun σ => rg <| u rfl (x_bin rfl rfl rfl) <| mv (.bool (x0.Kind == 6)) rfl ?_
 by_cases cc21 : x0.Kind = 6
 ·rw [if_pos cc21] at H
  refine cT rfl (eqT cc21) <| sr <| u rfl (x_fa tf27_2 rfl) <| u rfl (x_ld tsc3 rfl (S.load 0 rfl 2 rfl)) <| u rfl (x_bin rfl rfl rfl) <| mv (.bool (decide (x0.Num ≥ 0))) rfl ?_
  by_cases cc22 : x0.Num ≥ 0
  ·rw [if_pos cc22] at H
   refine gu rfl rfl rfl (deT cc22) (x_fa tf27_2 rfl) <| gu rfl rfl rfl (deT cc22) (x_ld tsc3 rfl (S.load 0 rfl 2 rfl)) <| gu rfl rfl rfl (deT cc22) (x_bin rfl rfl rfl) <| u rfl (x_pickTV (v := .bool (decide (x0.Num ≤ 2))) rfl (deT cc22) rfl) <| mv (.bool (decide (x0.Num ≤ 2))) rfl <| rt ?_
   obtain rfl := si H
   exact ⟨_, ⟨_, rfl, rfl⟩, ⟨rfl, ((S.sel 1 [] rfl).weaken hI)⟩⟩
  rw [if_neg cc22] at H
  refine gn rfl rfl rfl (deF cc22) <| gn rfl rfl rfl (deF cc22) <| gn rfl rfl rfl (deF cc22) <| u rfl (x_pickFV (v := .bool false) rfl (deF cc22) rfl) <| mv (.bool false) rfl <| rt ?_
  obtain rfl := si H
  exact ⟨_, ⟨_, rfl, rfl⟩, ⟨rfl, ((S.sel 1 [] rfl).weaken hI)⟩⟩
 rw [if_neg cc21] at H
 refine cF rfl (eqF cc21) <| sk <| sr <| mv (.bool false) rfl <| rt ?_
 obtain rfl := si H
 exact ⟨_, ⟨_, rfl, rfl⟩, ⟨rfl, ((S.sel 1 [] rfl).weaken hI)⟩⟩
def policy_rule_1.f (k : Nat) (x0 : T_api_Cond) : Option Bool := ((policy_RightCond.f k x0).bind fun y2 => (some (!y2)))
abbrev policy_rule_1.C (k : Nat) : Prop := ∀ {x0 : T_api_Cond} {x0v5 : Value} {x0v6 : Value} {F : List It} {I : IMem} {w : World} {r : Bool}, Glob I → Own I w (F) → SlR R_api_Range I x0v5 x0.Range → SlR (tInt' .u32) I x0v6 x0.Comms → policy_rule_1.f k x0 = some r →
    Calls Tryz.prog 75 #[.agg #[.int .i64 x0.Kind, .bool x0.Not, .int .i64 x0.Num, .int .u32 x0.Addr, .string x0.Text, x0v5, x0v6]] w fun e w' => ∃ v, e = .returned v ∧ v = .bool r ∧ Own I w' (F)
theorem policy_rule_1.ok (k : Nat) : policy_rule_1.C k := by
 intro x0 x0v5 x0v6 F I w r hG S x0h5 x0h6 H
 have hI := IMem.le.refl I
 rw [policy_rule_1.f] at H
 refine Calls.ofFW (args := [.agg #[.int .i64 x0.Kind, .bool x0.Not, .int .i64 x0.Num, .int .u32 x0.Addr, .string x0.Text, x0v5, x0v6]]) Tryz.func75 rfl rfl <| sr <| g rfl (o_boxA rfl S fun b1 w S => mv (.bool false) rfl (sq (rg (u rfl (x_ldA tag27 rfl (S.loadW 0 rfl) rfl) ?_))))
 obtain ⟨y2, hy3, H⟩ := obx H
 refine g rfl (cl fb14 (@policy_RightCond.ok k x0 _ _ _ _ _ _ hG S x0h5 x0h6 hy3) rfl ?_)
 rintro _ w ⟨rfl, S⟩
 refine u rfl (x_not' rfl) <| mv (.bool (!y2)) rfl <| rt ?_
 obtain rfl := si H
 exact ⟨_, ⟨_, rfl, rfl⟩, ⟨rfl, ((S.sel 1 [] rfl).weaken hI)⟩⟩
def slices_IndexFunc_109_w175.l0 : Nat → (List T_api_Cond) → Int → Option (Sum Int Unit)
  | 0, _, _ => none
  | k + 1, x0, n2 => (if n2 < (x0.length : Int) then ((lat x0 n2).bind fun y11 => ((policy_rule_1.f k y11).bind fun y18 => (if y18 = true then (some (.inl n2)) else (slices_IndexFunc_109_w175.l0 k x0 (i64 (n2 + 1)))))) else (some (.inr ())))
def slices_IndexFunc_109_w175.f (k : Nat) (x0 : (List T_api_Cond)) : Option Int := (((slices_IndexFunc_109_w175.l0 k x0 0) : Option (Sum Int Unit)).bind fun o => match o with | .inl r => some r | .inr _ => (some (-1)))
abbrev slices_IndexFunc_109_w175.C (k : Nat) : Prop := ∀ {x0 : (List T_api_Cond)} {vx0 : Value} {F : List It} {I : IMem} {w : World} {r : Int}, Glob I → Own I w (F) → SlR R_api_Cond I vx0 x0 → slices_IndexFunc_109_w175.f k x0 = some r →
    Calls Tryz.prog 109 #[vx0, .func (.func 75) #[] #[]] w fun e w' => ∃ v, e = .returned v ∧ v = .int .i64 r ∧ Own I w' (F)
theorem slices_IndexFunc_109_w175.ok (k : Nat) : slices_IndexFunc_109_w175.C k := by
 intro x0 vx0 F I w r hG S hx0 H
 have hI := IMem.le.refl I
 rw [slices_IndexFunc_109_w175.f] at H
 refine Calls.ofFW (args := [vx0, .func (.func 75) #[] #[]]) Tryz.func109 rfl rfl <| sr <| mv (.int .i64 0) rfl <| sq <| sr <| mv vx0 rfl <| u rfl (x_lenD (r := R_api_Cond) tsl48 hx0) <| mv (.int .i64 0) rfl <| bk ?_
 obtain ⟨o5, hl7, HO6⟩ := obx H
 refine FW.cutX 0 (fun σ w => ∃ (J8 : IMem), (.inr ()) = o5 ∧ Has σ [] ∧ I.le J8 ∧ Own J8 w (F)) ?_ ?_
 ·refine FW.loop k (FL.ind (fun q σ w => ∃ (n2 : Int) (J1 : IMem), slices_IndexFunc_109_w175.l0 q x0 n2 = some o5 ∧ q ≤ k ∧ Has σ [(0, vx0), (1, .func (.func 75) #[] #[]), (7, .int .i64 (x0.length : Int)), (8, .int .i64 n2)] ∧ I.le J1 ∧ Own J1 w (F)) ?_ ?_ k k _ _ (Nat.le_refl _) ⟨0, I, hl7, Nat.le_refl _, ⟨rfl, rfl, rfl, rfl, trivial⟩, (IMem.le.refl _), S⟩)
  ·rintro σ w ⟨n2, J1, H, _⟩; cases H
  rintro q3 σ w ⟨n2, J1, H, hq9, hσ, hL4, S⟩
  have hx0 := hx0.mono hL4
  have hI := hI.trans hL4
  have hG := hG.mono hL4
  rw [hσ.eq]
  rw [slices_IndexFunc_109_w175.l0] at H
  refine sr <| u rfl (x_bin rfl rfl rfl) <| sq ?_
  by_cases cc10 : n2 < (x0.length : Int)
  ·rw [if_pos cc10] at H
   refine cT rfl (deT cc10) <| sk <| sq <| bk <| sr <| mv (.int .i64 n2) rfl <| mv (.int .i64 n2) rfl <| sr <| mv (.func (.func 75) #[] #[]) rfl <| mv vx0 rfl <| mv (.int .i64 n2) rfl ?_
   obtain ⟨y11, h12, H⟩ := obx H
   refine g rfl (o_ia (r := R_api_Cond) tsl48 rfl rfl hx0 rfl h12 fun b13 o14 cs15 hr16 hc17 => ?_)
   obtain ⟨y11v5, y11v6, rfl, y11h5, y11h6⟩ := hr16
   refine u rfl (x_ldA tag27 rfl (S.loadI hc17) rfl) ?_
   obtain ⟨y18, hy19, H⟩ := obx H
   refine g rfl (clv rfl fb75 (@policy_rule_1.ok q3 y11 _ _ _ _ _ _ hG S y11h5 y11h6 hy19) rfl ?_)
   rintro _ w ⟨rfl, S⟩
   by_cases cc20 : y18 = true
   ·rw [if_pos cc20] at H
    refine cT rfl cc20 <| sq <| FW.anew [(5, .int .i64 n2)] ⟨rfl, trivial⟩ fun σ => rg <| mv (.int .i64 n2) rfl <| mv (.int .i64 n2) rfl <| rt ?_
    obtain rfl := si H
    obtain rfl := si HO6
    exact ⟨_, ⟨_, rfl, rfl⟩, ⟨rfl, (S.weaken hI)⟩⟩
   rw [if_neg cc20] at H
   refine cF rfl (vaF cc20) <| sk <| FW.anew [(0, vx0), (1, .func (.func 75) #[] #[]), (7, .int .i64 (x0.length : Int)), (8, .int .i64 n2)] ⟨rfl, rfl, rfl, rfl, trivial⟩ fun σ => rg <| u rfl (x_bin rfl rfl rfl) <| mv (.int .i64 (i64 (n2 + 1))) rfl ⟨q3, Nat.le_refl _, (i64 (n2 + 1)), J1, H, (Nat.le_of_succ_le hq9), ⟨rfl, rfl, rfl, rfl, trivial⟩, hL4, S⟩
  rw [if_neg cc10] at H
  refine cF rfl (deF cc10) <| ex ⟨J1, (si H), trivial, hL4, S⟩
 rintro σ w ⟨J8, ho, hσ, hL4, S⟩
 subst ho
 have H := HO6
 try dsimp only at H
 have hI := hI.trans hL4
 rw [hσ.eq]
 refine sr <| mv (.int .i64 (-1)) rfl <| rt ?_
 obtain rfl := si H
 exact ⟨_, ⟨_, rfl, rfl⟩, ⟨rfl, (S.weaken hI)⟩⟩
def slices_ContainsFunc_77_w175.f (k : Nat) (x0 : (List T_api_Cond)) : Option Bool := ((slices_IndexFunc_109_w175.f k x0).bind fun y1 => (some (decide (y1 ≥ 0))))
abbrev slices_ContainsFunc_77_w175.C (k : Nat) : Prop := ∀ {x0 : (List T_api_Cond)} {vx0 : Value} {F : List It} {I : IMem} {w : World} {r : Bool}, Glob I → Own I w (F) → SlR R_api_Cond I vx0 x0 → slices_ContainsFunc_77_w175.f k x0 = some r →
    Calls Tryz.prog 77 #[vx0, .func (.func 75) #[] #[]] w fun e w' => ∃ v, e = .returned v ∧ v = .bool r ∧ Own I w' (F)
theorem slices_ContainsFunc_77_w175.ok (k : Nat) : slices_ContainsFunc_77_w175.C k := by
 intro x0 vx0 F I w r hG S hx0 H
 have hI := IMem.le.refl I
 rw [slices_ContainsFunc_77_w175.f] at H
 refine Calls.ofFW (args := [vx0, .func (.func 75) #[] #[]]) Tryz.func77 rfl rfl <| sr <| mv (.bool false) rfl <| sr <| mv vx0 rfl <| mv (.func (.func 75) #[] #[]) rfl ?_
 obtain ⟨y1, hy2, H⟩ := obx H
 refine g rfl (cl fb109 (@slices_IndexFunc_109_w175.ok k x0 _ _ _ _ _ hG S hx0 hy2) rfl ?_)
 rintro _ w ⟨rfl, S⟩
 refine u rfl (x_bin rfl rfl rfl) <| mv (.bool (decide (y1 ≥ 0))) rfl <| rt ?_
 obtain rfl := si H
 exact ⟨_, ⟨_, rfl, rfl⟩, ⟨rfl, (S.weaken hI)⟩⟩
def attrs_Next.f (k : Nat) (x0 : Int) : Option Bool := (if (shr .u32 x0 24) = 0 then (some false) else (if (shr .u32 x0 24) = 127 then (some false) else (some (decide ((shr .u32 x0 24) < 224)))))
abbrev attrs_Next.C (k : Nat) : Prop := ∀ {x0 : Int} {F : List It} {I : IMem} {w : World} {r : Bool}, Glob I → Own I w (F) → attrs_Next.f k x0 = some r →
    Calls Tryz.prog 46 #[.int .u32 x0] w fun e w' => ∃ v, e = .returned v ∧ v = .bool r ∧ Own I w' (F)
theorem attrs_Next.ok (k : Nat) : attrs_Next.C k := by
 intro x0 F I w r hG S H
 have hI := IMem.le.refl I
 rw [attrs_Next.f] at H
 refine Calls.ofFW (args := [.int .u32 x0]) Tryz.func46 rfl rfl <| sr <| mv (.bool false) rfl <| sr <| mv (.int .u32 x0) rfl <| u rfl (x_shr rfl rfl (by decide)) <| mv (.int .u32 (shr .u32 x0 24)) rfl <| sr <| mv (.int .u32 (shr .u32 x0 24)) rfl <| u rfl (x_bin rfl rfl rfl) <| mv (.bool ((shr .u32 x0 24) != 0)) rfl ?_
 by_cases cc1 : (shr .u32 x0 24) = 0
 ·rw [if_pos cc1] at H
  refine gn rfl rfl rfl (neF cc1) <| gn rfl rfl rfl (neF cc1) <| u rfl (x_pickFV (v := .bool false) rfl (neF cc1) rfl) <| mv (.bool false) rfl <| gn rfl rfl rfl rfl <| gn rfl rfl rfl rfl <| u rfl (x_pickFV (v := .bool false) rfl rfl rfl) <| mv (.bool false) rfl <| rt ?_
  obtain rfl := si H
  exact ⟨_, ⟨_, rfl, rfl⟩, ⟨rfl, (S.weaken hI)⟩⟩
 rw [if_neg cc1] at H
 refine gu rfl rfl rfl (neT cc1) (x_movV (v := .int .u32 (shr .u32 x0 24)) rfl) <| gu rfl rfl rfl (neT cc1) (x_bin rfl rfl rfl) <| u rfl (x_pickTV (v := .bool ((shr .u32 x0 24) != 127)) rfl (neT cc1) rfl) <| mv (.bool ((shr .u32 x0 24) != 127)) rfl ?_
 by_cases cc2 : (shr .u32 x0 24) = 127
 ·rw [if_pos cc2] at H
  refine gn rfl rfl rfl (neF cc2) <| gn rfl rfl rfl (neF cc2) <| u rfl (x_pickFV (v := .bool false) rfl (neF cc2) rfl) <| mv (.bool false) rfl <| rt ?_
  obtain rfl := si H
  exact ⟨_, ⟨_, rfl, rfl⟩, ⟨rfl, (S.weaken hI)⟩⟩
 rw [if_neg cc2] at H
 refine gu rfl rfl rfl (neT cc2) (x_movV (v := .int .u32 (shr .u32 x0 24)) rfl) <| gu rfl rfl rfl (neT cc2) (x_bin rfl rfl rfl) <| u rfl (x_pickTV (v := .bool (decide ((shr .u32 x0 24) < 224))) rfl (neT cc2) rfl) <| mv (.bool (decide ((shr .u32 x0 24) < 224))) rfl <| rt ?_
 obtain rfl := si H
 exact ⟨_, ⟨_, rfl, rfl⟩, ⟨rfl, (S.weaken hI)⟩⟩
def policy_RightDeed.f (k : Nat) (x0 : T_api_Deed) : Option Bool := (if x0.Kind = 1 then (if x0.Num ≥ 0 then (some (decide (x0.Num ≤ 4294967295))) else (some false)) else (if x0.Kind = 2 then (if x0.Num ≥ (-1) then (some (decide (x0.Num ≤ 4294967295))) else (some false)) else (if x0.Kind = 3 then (if x0.Num ≥ 1 then (some (decide (x0.Num ≤ 8))) else (some false)) else (if x0.Kind = 4 then (some true) else (if x0.Kind = 5 then (some true) else (if x0.Kind = 7 then (some true) else (if x0.Kind = 6 then ((attrs_Next.f k x0.Addr).bind fun y12 => (some y12)) else (some false))))))))
abbrev policy_RightDeed.C (k : Nat) : Prop := ∀ {x0 : T_api_Deed} {F : List It} {I : IMem} {w : World} {r : Bool}, Glob I → Own I w (F) → policy_RightDeed.f k x0 = some r →
    Calls Tryz.prog 16 #[.agg #[.int .i64 x0.Kind, .int .i64 x0.Num, .int .u32 x0.Addr]] w fun e w' => ∃ v, e = .returned v ∧ v = .bool r ∧ Own I w' (F)
theorem policy_RightDeed.ok (k : Nat) : policy_RightDeed.C k := by
 intro x0 F I w r hG S H
 have hI := IMem.le.refl I
 rw [policy_RightDeed.f] at H
 refine Calls.ofFW (args := [.agg #[.int .i64 x0.Kind, .int .i64 x0.Num, .int .u32 x0.Addr]]) Tryz.func16 rfl rfl <| sr <| g rfl (o_boxA rfl S fun b1 w S => mv (.bool false) rfl (sq (sq (rg (u rfl (x_fa tf29_0 rfl) (u rfl (x_ld tsc3 rfl (S.load 0 rfl 0 rfl)) (bk (sq (rg (u rfl (x_bin rfl rfl rfl) (mv (.bool (x0.Kind == 1)) rfl ?_)))))))))))
 by_cases cc2 : x0.Kind = 1
 ·rw [if_pos cc2] at H
  refine cT rfl (eqT cc2) <| sr <| u rfl (x_fa tf29_1 rfl) <| u rfl (x_ld tsc3 rfl (S.load 0 rfl 1 rfl)) <| u rfl (x_bin rfl rfl rfl) <| mv (.bool (decide (x0.Num ≥ 0))) rfl ?_
  by_cases cc3 : x0.Num ≥ 0
  ·rw [if_pos cc3] at H
   refine gu rfl rfl rfl (deT cc3) (x_fa tf29_1 rfl) <| gu rfl rfl rfl (deT cc3) (x_ld tsc3 rfl (S.load 0 rfl 1 rfl)) <| gu rfl rfl rfl (deT cc3) (x_bin rfl rfl rfl) <| u rfl (x_pickTV (v := .bool (decide (x0.Num ≤ 4294967295))) rfl (deT cc3) rfl) <| mv (.bool (decide (x0.Num ≤ 4294967295))) rfl <| rt ?_
   obtain rfl := si H
   exact ⟨_, ⟨_, rfl, rfl⟩, ⟨rfl, ((S.sel 1 [] rfl).weaken hI)⟩⟩
  rw [if_neg cc3] at H
  refine gn rfl rfl rfl (deF cc3) <| gn rfl rfl rfl (deF cc3) <| gn rfl rfl rfl (deF cc3) <| u rfl (x_pickFV (v := .bool false) rfl (deF cc3) rfl) <| mv (.bool false) rfl <| rt ?_
  obtain rfl := si H
  exact ⟨_, ⟨_, rfl, rfl⟩, ⟨rfl, ((S.sel 1 [] rfl).weaken hI)⟩⟩
 rw [if_neg cc2] at H
 refine cF rfl (eqF cc2) <| sr <| u rfl (x_bin rfl rfl rfl) <| mv (.bool (x0.Kind == 2)) rfl ?_
 by_cases cc4 : x0.Kind = 2
 ·rw [if_pos cc4] at H
  refine cT rfl (eqT cc4) <| sq <| FW.anew [(1, pt b1)] ⟨rfl, trivial⟩ fun σ => rg <| u rfl (x_fa tf29_1 rfl) <| u rfl (x_ld tsc3 rfl (S.load 0 rfl 1 rfl)) <| u rfl (x_bin rfl rfl rfl) <| mv (.bool (decide (x0.Num ≥ (-1)))) rfl ?_
  by_cases cc5 : x0.Num ≥ (-1)
  ·rw [if_pos cc5] at H
   refine gu rfl rfl rfl (deT cc5) (x_fa tf29_1 rfl) <| gu rfl rfl rfl (deT cc5) (x_ld tsc3 rfl (S.load 0 rfl 1 rfl)) <| gu rfl rfl rfl (deT cc5) (x_bin rfl rfl rfl) <| u rfl (x_pickTV (v := .bool (decide (x0.Num ≤ 4294967295))) rfl (deT cc5) rfl) <| mv (.bool (decide (x0.Num ≤ 4294967295))) rfl <| rt ?_
   obtain rfl := si H
   exact ⟨_, ⟨_, rfl, rfl⟩, ⟨rfl, ((S.sel 1 [] rfl).weaken hI)⟩⟩
  rw [if_neg cc5] at H
  refine gn rfl rfl rfl (deF cc5) <| gn rfl rfl rfl (deF cc5) <| gn rfl rfl rfl (deF cc5) <| u rfl (x_pickFV (v := .bool false) rfl (deF cc5) rfl) <| mv (.bool false) rfl <| rt ?_
  obtain rfl := si H
  exact ⟨_, ⟨_, rfl, rfl⟩, ⟨rfl, ((S.sel 1 [] rfl).weaken hI)⟩⟩
 rw [if_neg cc4] at H
 refine cF rfl (eqF cc4) <| sq <| FW.anew [(1, pt b1), (4, .int .i64 x0.Kind)] ⟨rfl, rfl, trivial⟩ fun σ => rg <| u rfl (x_bin rfl rfl rfl) <| mv (.bool (x0.Kind == 3)) rfl ?_
 by_cases cc6 : x0.Kind = 3
 ·rw [if_pos cc6] at H
  refine cT rfl (eqT cc6) <| sr <| u rfl (x_fa tf29_1 rfl) <| u rfl (x_ld tsc3 rfl (S.load 0 rfl 1 rfl)) <| u rfl (x_bin rfl rfl rfl) <| mv (.bool (decide (x0.Num ≥ 1))) rfl ?_
  by_cases cc7 : x0.Num ≥ 1
  ·rw [if_pos cc7] at H
   refine gu rfl rfl rfl (deT cc7) (x_fa tf29_1 rfl) <| gu rfl rfl rfl (deT cc7) (x_ld tsc3 rfl (S.load 0 rfl 1 rfl)) <| gu rfl rfl rfl (deT cc7) (x_bin rfl rfl rfl) <| u rfl (x_pickTV (v := .bool (decide (x0.Num ≤ 8))) rfl (deT cc7) rfl) <| mv (.bool (decide (x0.Num ≤ 8))) rfl <| rt ?_
   obtain rfl := si H
   exact ⟨_, ⟨_, rfl, rfl⟩, ⟨rfl, ((S.sel 1 [] rfl).weaken hI)⟩⟩
  rw [if_neg cc7] at H
  refine gn rfl rfl rfl (deF cc7) <| gn rfl rfl rfl (deF cc7) <| gn rfl rfl rfl (deF cc7) <| u rfl (x_pickFV (v := .bool false) rfl (deF cc7) rfl) <| mv (.bool false) rfl <| rt ?_
  obtain rfl := si H
  exact ⟨_, ⟨_, rfl, rfl⟩, ⟨rfl, ((S.sel 1 [] rfl).weaken hI)⟩⟩
 rw [if_neg cc6] at H
 refine cF rfl (eqF cc6) <| sq <| sr <| u rfl (x_bin rfl rfl rfl) <| mv (.bool (x0.Kind == 4)) rfl ?_
 by_cases cc8 : x0.Kind = 4
 ·rw [if_pos cc8] at H
  refine cT rfl (eqT cc8) <| sk <| cT rfl (eqT cc8) <| sr <| mv (.bool true) rfl <| rt ?_
  obtain rfl := si H
  exact ⟨_, ⟨_, rfl, rfl⟩, ⟨rfl, ((S.sel 1 [] rfl).weaken hI)⟩⟩
 rw [if_neg cc8] at H
 refine cF rfl (eqF cc8) <| sr <| u rfl (x_bin rfl rfl rfl) <| mv (.bool (x0.Kind == 5)) rfl ?_
 by_cases cc9 : x0.Kind = 5
 ·rw [if_pos cc9] at H
  refine cT rfl (eqT cc9) <| sk <| cT rfl (eqT cc9) <| sr <| mv (.bool true) rfl <| rt ?_
  obtain rfl := si H
  exact ⟨_, ⟨_, rfl, rfl⟩, ⟨rfl, ((S.sel 1 [] rfl).weaken hI)⟩⟩
 rw [if_neg cc9] at H
 refine cF rfl (eqF cc9) <| rg <| u rfl (x_bin rfl rfl rfl) <| mv (.bool (x0.Kind == 7)) rfl ?_
 by_cases cc10 : x0.Kind = 7
 ·rw [if_pos cc10] at H
  refine cT rfl (eqT cc10) <| sq <| FW.anew [] trivial fun σ => rg <| mv (.bool true) rfl <| rt ?_
  obtain rfl := si H
  exact ⟨_, ⟨_, rfl, rfl⟩, ⟨rfl, ((S.sel 1 [] rfl).weaken hI)⟩⟩
 rw [if_neg cc10] at H
 refine cF rfl (eqF cc10) <| sq <| FW.anew [(1, pt b1), (4, .int .i64 x0.Kind)] ⟨rfl, rfl, trivial⟩ fun σ => rg <| u rfl (x_bin rfl rfl rfl) <| mv (.bool (x0.Kind == 6)) rfl ?_
 by_cases cc11 : x0.Kind = 6
 ·rw [if_pos cc11] at H
  refine cT rfl (eqT cc11) <| sr <| u rfl (x_fa tf29_2 rfl) <| u rfl (x_ld tsc23 rfl (S.load 0 rfl 2 rfl)) ?_
  obtain ⟨y12, hy13, H⟩ := obx H
  refine g rfl (cl fb46 (@attrs_Next.ok k x0.Addr _ _ _ _ hG S hy13) rfl ?_)
  rintro _ w ⟨rfl, S⟩
  refine mv (.bool y12) rfl <| rt ?_
  obtain rfl := si H
  exact ⟨_, ⟨_, rfl, rfl⟩, ⟨rfl, ((S.sel 1 [] rfl).weaken hI)⟩⟩
 rw [if_neg cc11] at H
 refine cF rfl (eqF cc11) <| sk <| sr <| mv (.bool false) rfl <| rt ?_
 obtain rfl := si H
 exact ⟨_, ⟨_, rfl, rfl⟩, ⟨rfl, ((S.sel 1 [] rfl).weaken hI)⟩⟩
def policy_rule_2.f (k : Nat) (x0 : T_api_Deed) : Option Bool := ((policy_RightDeed.f k x0).bind fun y2 => (some (!y2)))
abbrev policy_rule_2.C (k : Nat) : Prop := ∀ {x0 : T_api_Deed} {F : List It} {I : IMem} {w : World} {r : Bool}, Glob I → Own I w (F) → policy_rule_2.f k x0 = some r →
    Calls Tryz.prog 76 #[.agg #[.int .i64 x0.Kind, .int .i64 x0.Num, .int .u32 x0.Addr]] w fun e w' => ∃ v, e = .returned v ∧ v = .bool r ∧ Own I w' (F)
theorem policy_rule_2.ok (k : Nat) : policy_rule_2.C k := by
 intro x0 F I w r hG S H
 have hI := IMem.le.refl I
 rw [policy_rule_2.f] at H
 refine Calls.ofFW (args := [.agg #[.int .i64 x0.Kind, .int .i64 x0.Num, .int .u32 x0.Addr]]) Tryz.func76 rfl rfl <| sr <| g rfl (o_boxA rfl S fun b1 w S => mv (.bool false) rfl (sq (rg (u rfl (x_ldA tag29 rfl (S.loadW 0 rfl) rfl) ?_))))
 obtain ⟨y2, hy3, H⟩ := obx H
 refine g rfl (cl fb16 (@policy_RightDeed.ok k x0 _ _ _ _ hG S hy3) rfl ?_)
 rintro _ w ⟨rfl, S⟩
 refine u rfl (x_not' rfl) <| mv (.bool (!y2)) rfl <| rt ?_
 obtain rfl := si H
 exact ⟨_, ⟨_, rfl, rfl⟩, ⟨rfl, ((S.sel 1 [] rfl).weaken hI)⟩⟩
def slices_IndexFunc_110_w276.l0 : Nat → (List T_api_Deed) → Int → Option (Sum Int Unit)
  | 0, _, _ => none
  | k + 1, x0, n2 => (if n2 < (x0.length : Int) then ((lat x0 n2).bind fun y11 => ((policy_rule_2.f k y11).bind fun y18 => (if y18 = true then (some (.inl n2)) else (slices_IndexFunc_110_w276.l0 k x0 (i64 (n2 + 1)))))) else (some (.inr ())))
def slices_IndexFunc_110_w276.f (k : Nat) (x0 : (List T_api_Deed)) : Option Int := (((slices_IndexFunc_110_w276.l0 k x0 0) : Option (Sum Int Unit)).bind fun o => match o with | .inl r => some r | .inr _ => (some (-1)))
abbrev slices_IndexFunc_110_w276.C (k : Nat) : Prop := ∀ {x0 : (List T_api_Deed)} {vx0 : Value} {F : List It} {I : IMem} {w : World} {r : Int}, Glob I → Own I w (F) → SlR R_api_Deed I vx0 x0 → slices_IndexFunc_110_w276.f k x0 = some r →
    Calls Tryz.prog 110 #[vx0, .func (.func 76) #[] #[]] w fun e w' => ∃ v, e = .returned v ∧ v = .int .i64 r ∧ Own I w' (F)
theorem slices_IndexFunc_110_w276.ok (k : Nat) : slices_IndexFunc_110_w276.C k := by
 intro x0 vx0 F I w r hG S hx0 H
 have hI := IMem.le.refl I
 rw [slices_IndexFunc_110_w276.f] at H
 refine Calls.ofFW (args := [vx0, .func (.func 76) #[] #[]]) Tryz.func110 rfl rfl <| sr <| mv (.int .i64 0) rfl <| sq <| sr <| mv vx0 rfl <| u rfl (x_lenD (r := R_api_Deed) tsl49 hx0) <| mv (.int .i64 0) rfl <| bk ?_
 obtain ⟨o5, hl7, HO6⟩ := obx H
 refine FW.cutX 0 (fun σ w => ∃ (J8 : IMem), (.inr ()) = o5 ∧ Has σ [] ∧ I.le J8 ∧ Own J8 w (F)) ?_ ?_
 ·refine FW.loop k (FL.ind (fun q σ w => ∃ (n2 : Int) (J1 : IMem), slices_IndexFunc_110_w276.l0 q x0 n2 = some o5 ∧ q ≤ k ∧ Has σ [(0, vx0), (1, .func (.func 76) #[] #[]), (7, .int .i64 (x0.length : Int)), (8, .int .i64 n2)] ∧ I.le J1 ∧ Own J1 w (F)) ?_ ?_ k k _ _ (Nat.le_refl _) ⟨0, I, hl7, Nat.le_refl _, ⟨rfl, rfl, rfl, rfl, trivial⟩, (IMem.le.refl _), S⟩)
  ·rintro σ w ⟨n2, J1, H, _⟩; cases H
  rintro q3 σ w ⟨n2, J1, H, hq9, hσ, hL4, S⟩
  have hx0 := hx0.mono hL4
  have hI := hI.trans hL4
  have hG := hG.mono hL4
  rw [hσ.eq]
  rw [slices_IndexFunc_110_w276.l0] at H
  refine sr <| u rfl (x_bin rfl rfl rfl) <| sq ?_
  by_cases cc10 : n2 < (x0.length : Int)
  ·rw [if_pos cc10] at H
   refine cT rfl (deT cc10) <| sk <| sq <| bk <| sr <| mv (.int .i64 n2) rfl <| mv (.int .i64 n2) rfl <| sr <| mv (.func (.func 76) #[] #[]) rfl <| mv vx0 rfl <| mv (.int .i64 n2) rfl ?_
   obtain ⟨y11, h12, H⟩ := obx H
   refine g rfl (o_ia (r := R_api_Deed) tsl49 rfl rfl hx0 rfl h12 fun b13 o14 cs15 hr16 hc17 => ?_)
   obtain rfl := hr16
   refine u rfl (x_ldA tag29 rfl (S.loadI hc17) rfl) ?_
   obtain ⟨y18, hy19, H⟩ := obx H
   refine g rfl (clv rfl fb76 (@policy_rule_2.ok q3 y11 _ _ _ _ hG S hy19) rfl ?_)
   rintro _ w ⟨rfl, S⟩
   by_cases cc20 : y18 = true
   ·rw [if_pos cc20] at H
    refine cT rfl cc20 <| sq <| FW.anew [(5, .int .i64 n2)] ⟨rfl, trivial⟩ fun σ => rg <| mv (.int .i64 n2) rfl <| mv (.int .i64 n2) rfl <| rt ?_
    obtain rfl := si H
    obtain rfl := si HO6
    exact ⟨_, ⟨_, rfl, rfl⟩, ⟨rfl, (S.weaken hI)⟩⟩
   rw [if_neg cc20] at H
   refine cF rfl (vaF cc20) <| sk <| FW.anew [(0, vx0), (1, .func (.func 76) #[] #[]), (7, .int .i64 (x0.length : Int)), (8, .int .i64 n2)] ⟨rfl, rfl, rfl, rfl, trivial⟩ fun σ => rg <| u rfl (x_bin rfl rfl rfl) <| mv (.int .i64 (i64 (n2 + 1))) rfl ⟨q3, Nat.le_refl _, (i64 (n2 + 1)), J1, H, (Nat.le_of_succ_le hq9), ⟨rfl, rfl, rfl, rfl, trivial⟩, hL4, S⟩
  rw [if_neg cc10] at H
  refine cF rfl (deF cc10) <| ex ⟨J1, (si H), trivial, hL4, S⟩
 rintro σ w ⟨J8, ho, hσ, hL4, S⟩
 subst ho
 have H := HO6
 try dsimp only at H
 have hI := hI.trans hL4
 rw [hσ.eq]
 refine sr <| mv (.int .i64 (-1)) rfl <| rt ?_
 obtain rfl := si H
 exact ⟨_, ⟨_, rfl, rfl⟩, ⟨rfl, (S.weaken hI)⟩⟩
def slices_ContainsFunc_78_w276.f (k : Nat) (x0 : (List T_api_Deed)) : Option Bool := ((slices_IndexFunc_110_w276.f k x0).bind fun y1 => (some (decide (y1 ≥ 0))))
abbrev slices_ContainsFunc_78_w276.C (k : Nat) : Prop := ∀ {x0 : (List T_api_Deed)} {vx0 : Value} {F : List It} {I : IMem} {w : World} {r : Bool}, Glob I → Own I w (F) → SlR R_api_Deed I vx0 x0 → slices_ContainsFunc_78_w276.f k x0 = some r →
    Calls Tryz.prog 78 #[vx0, .func (.func 76) #[] #[]] w fun e w' => ∃ v, e = .returned v ∧ v = .bool r ∧ Own I w' (F)
theorem slices_ContainsFunc_78_w276.ok (k : Nat) : slices_ContainsFunc_78_w276.C k := by
 intro x0 vx0 F I w r hG S hx0 H
 have hI := IMem.le.refl I
 rw [slices_ContainsFunc_78_w276.f] at H
 refine Calls.ofFW (args := [vx0, .func (.func 76) #[] #[]]) Tryz.func78 rfl rfl <| sr <| mv (.bool false) rfl <| sr <| mv vx0 rfl <| mv (.func (.func 76) #[] #[]) rfl ?_
 obtain ⟨y1, hy2, H⟩ := obx H
 refine g rfl (cl fb110 (@slices_IndexFunc_110_w276.ok k x0 _ _ _ _ _ hG S hx0 hy2) rfl ?_)
 rintro _ w ⟨rfl, S⟩
 refine u rfl (x_bin rfl rfl rfl) <| mv (.bool (decide (y1 ≥ 0))) rfl <| rt ?_
 obtain rfl := si H
 exact ⟨_, ⟨_, rfl, rfl⟩, ⟨rfl, (S.weaken hI)⟩⟩
def policy_rule.f (k : Nat) (x0 : T_api_Rule) : Option Bool := (if (x0.Conds.length : Int) > 16 then (some false) else (if (x0.Deeds.length : Int) > 16 then (some false) else ((slices_ContainsFunc_77_w175.f k x0.Conds).bind fun y4 => (if y4 = true then (some false) else ((slices_ContainsFunc_78_w276.f k x0.Deeds).bind fun y7 => (if y7 = true then (some false) else (if x0.Verdict = 1 then (some true) else (if x0.Verdict = 2 then (some true) else (some (x0.Verdict == 3))))))))))
abbrev policy_rule.C (k : Nat) : Prop := ∀ {x0 : T_api_Rule} {x0v0 : Value} {x0v1 : Value} {F : List It} {I : IMem} {w : World} {r : Bool}, Glob I → Own I w (F) → SlR R_api_Cond I x0v0 x0.Conds → SlR R_api_Deed I x0v1 x0.Deeds → policy_rule.f k x0 = some r →
    Calls Tryz.prog 39 #[.agg #[x0v0, x0v1, .int .i64 x0.Verdict]] w fun e w' => ∃ v, e = .returned v ∧ v = .bool r ∧ Own I w' (F)
theorem policy_rule.ok (k : Nat) : policy_rule.C k := by
 intro x0 x0v0 x0v1 F I w r hG S x0h0 x0h1 H
 have hI := IMem.le.refl I
 rw [policy_rule.f] at H
 refine Calls.ofFW (args := [.agg #[x0v0, x0v1, .int .i64 x0.Verdict]]) Tryz.func39 rfl rfl <| sr <| g rfl (o_boxA rfl S fun b1 w S => mv (.bool false) rfl (sq (sq (rg (u rfl (x_fa tf51_0 rfl) (u rfl (x_ld tsc48 rfl (S.load 0 rfl 0 rfl)) (u rfl (x_lenD (r := R_api_Cond) tsl48 x0h0) (u rfl (x_bin rfl rfl rfl) (mv (.bool (decide ((x0.Conds.length : Int) > 16))) rfl ?_)))))))))
 by_cases cc2 : (x0.Conds.length : Int) > 16
 ·rw [if_pos cc2] at H
  refine gn rfl rfl rfl (deT cc2) <| gn rfl rfl rfl (deT cc2) <| gn rfl rfl rfl (deT cc2) <| gn rfl rfl rfl (deT cc2) <| u rfl (x_pickTV (v := .bool true) rfl (deT cc2) rfl) <| cT rfl rfl <| sq <| FW.anew [] trivial fun σ => rg <| mv (.bool false) rfl <| rt ?_
  obtain rfl := si H
  exact ⟨_, ⟨_, rfl, rfl⟩, ⟨rfl, ((S.sel 1 [] rfl).weaken hI)⟩⟩
 rw [if_neg cc2] at H
 refine gu rfl rfl rfl (deF cc2) (x_fa tf51_1 rfl) <| gu rfl rfl rfl (deF cc2) (x_ld tsc49 rfl (S.load 0 rfl 1 rfl)) <| gu rfl rfl rfl (deF cc2) (x_lenD (r := R_api_Deed) tsl49 x0h1) <| gu rfl rfl rfl (deF cc2) (x_bin rfl rfl rfl) <| u rfl (x_pickFV (v := .bool (decide ((x0.Deeds.length : Int) > 16))) rfl (deF cc2) rfl) ?_
 by_cases cc3 : (x0.Deeds.length : Int) > 16
 ·rw [if_pos cc3] at H
  refine cT rfl (deT cc3) <| sq <| FW.anew [] trivial fun σ => rg <| mv (.bool false) rfl <| rt ?_
  obtain rfl := si H
  exact ⟨_, ⟨_, rfl, rfl⟩, ⟨rfl, ((S.sel 1 [] rfl).weaken hI)⟩⟩
 rw [if_neg cc3] at H
 refine cF rfl (deF cc3) <| sk <| sq <| FW.anew [(1, pt b1)] ⟨rfl, trivial⟩ fun σ => rg <| mv (.func (.func 75) #[] #[]) rfl <| sr <| mv (.func (.func 76) #[] #[]) rfl <| sq <| sr <| u rfl (x_fa tf51_0 rfl) <| u rfl (x_ld tsc48 rfl (S.load 0 rfl 0 rfl)) <| mv (.func (.func 75) #[] #[]) rfl ?_
 obtain ⟨y4, hy5, H⟩ := obx H
 refine g rfl (cl fb77 (@slices_ContainsFunc_77_w175.ok k x0.Conds _ _ _ _ _ hG S x0h0 hy5) rfl ?_)
 rintro _ w ⟨rfl, S⟩
 refine mv (.bool y4) rfl ?_
 by_cases cc6 : y4 = true
 ·rw [if_pos cc6] at H
  refine gn rfl rfl rfl cc6 <| gn rfl rfl rfl cc6 <| gn rfl rfl rfl cc6 <| gn rfl rfl rfl cc6 <| u rfl (x_pickTV (v := .bool true) rfl cc6 rfl) <| cT rfl rfl <| sq <| FW.anew [] trivial fun σ => rg <| mv (.bool false) rfl <| rt ?_
  obtain rfl := si H
  exact ⟨_, ⟨_, rfl, rfl⟩, ⟨rfl, ((S.sel 1 [] rfl).weaken hI)⟩⟩
 rw [if_neg cc6] at H
 refine gu rfl rfl rfl (vaF cc6) (x_fa tf51_1 rfl) <| gu rfl rfl rfl (vaF cc6) (x_ld tsc49 rfl (S.load 0 rfl 1 rfl)) <| gu rfl rfl rfl (vaF cc6) (x_movV (v := .func (.func 76) #[] #[]) rfl) ?_
 obtain ⟨y7, hy8, H⟩ := obx H
 refine OK.gt rfl rfl rfl (vaF cc6) (cl fb78 (@slices_ContainsFunc_78_w276.ok k x0.Deeds _ _ _ _ _ hG S x0h1 hy8) rfl ?_)
 rintro _ w ⟨rfl, S⟩
 refine u rfl (x_pickFV (v := .bool y7) rfl (vaF cc6) rfl) ?_
 by_cases cc9 : y7 = true
 ·rw [if_pos cc9] at H
  refine cT rfl cc9 <| sq <| FW.anew [] trivial fun σ => rg <| mv (.bool false) rfl <| rt ?_
  obtain rfl := si H
  exact ⟨_, ⟨_, rfl, rfl⟩, ⟨rfl, ((S.sel 1 [] rfl).weaken hI)⟩⟩
 rw [if_neg cc9] at H
 refine cF rfl (vaF cc9) <| sk <| sq <| FW.anew [(1, pt b1)] ⟨rfl, trivial⟩ fun σ => rg <| u rfl (x_fa tf51_2 rfl) <| u rfl (x_ld tsc3 rfl (S.load 0 rfl 2 rfl)) <| u rfl (x_bin rfl rfl rfl) <| mv (.bool (x0.Verdict == 1)) rfl ?_
 by_cases cc10 : x0.Verdict = 1
 ·rw [if_pos cc10] at H
  refine gn rfl rfl rfl (eqT cc10) <| gn rfl rfl rfl (eqT cc10) <| gn rfl rfl rfl (eqT cc10) <| u rfl (x_pickTV (v := .bool true) rfl (eqT cc10) rfl) <| mv (.bool true) rfl <| gn rfl rfl rfl rfl <| gn rfl rfl rfl rfl <| gn rfl rfl rfl rfl <| u rfl (x_pickTV (v := .bool true) rfl rfl rfl) <| mv (.bool true) rfl <| rt ?_
  obtain rfl := si H
  exact ⟨_, ⟨_, rfl, rfl⟩, ⟨rfl, ((S.sel 1 [] rfl).weaken hI)⟩⟩
 rw [if_neg cc10] at H
 refine gu rfl rfl rfl (eqF cc10) (x_fa tf51_2 rfl) <| gu rfl rfl rfl (eqF cc10) (x_ld tsc3 rfl (S.load 0 rfl 2 rfl)) <| gu rfl rfl rfl (eqF cc10) (x_bin rfl rfl rfl) <| u rfl (x_pickFV (v := .bool (x0.Verdict == 2)) rfl (eqF cc10) rfl) <| mv (.bool (x0.Verdict == 2)) rfl ?_
 by_cases cc11 : x0.Verdict = 2
 ·rw [if_pos cc11] at H
  refine gn rfl rfl rfl (eqT cc11) <| gn rfl rfl rfl (eqT cc11) <| gn rfl rfl rfl (eqT cc11) <| u rfl (x_pickTV (v := .bool true) rfl (eqT cc11) rfl) <| mv (.bool true) rfl <| rt ?_
  obtain rfl := si H
  exact ⟨_, ⟨_, rfl, rfl⟩, ⟨rfl, ((S.sel 1 [] rfl).weaken hI)⟩⟩
 rw [if_neg cc11] at H
 refine gu rfl rfl rfl (eqF cc11) (x_fa tf51_2 rfl) <| gu rfl rfl rfl (eqF cc11) (x_ld tsc3 rfl (S.load 0 rfl 2 rfl)) <| gu rfl rfl rfl (eqF cc11) (x_bin rfl rfl rfl) <| u rfl (x_pickFV (v := .bool (x0.Verdict == 3)) rfl (eqF cc11) rfl) <| mv (.bool (x0.Verdict == 3)) rfl <| rt ?_
 obtain rfl := si H
 exact ⟨_, ⟨_, rfl, rfl⟩, ⟨rfl, ((S.sel 1 [] rfl).weaken hI)⟩⟩
def policy_Right_1.f (k : Nat) (x0 : T_api_Rule) : Option Bool := ((policy_rule.f k x0).bind fun y2 => (some (!y2)))
abbrev policy_Right_1.C (k : Nat) : Prop := ∀ {x0 : T_api_Rule} {x0v0 : Value} {x0v1 : Value} {F : List It} {I : IMem} {w : World} {r : Bool}, Glob I → Own I w (F) → SlR R_api_Cond I x0v0 x0.Conds → SlR R_api_Deed I x0v1 x0.Deeds → policy_Right_1.f k x0 = some r →
    Calls Tryz.prog 38 #[.agg #[x0v0, x0v1, .int .i64 x0.Verdict]] w fun e w' => ∃ v, e = .returned v ∧ v = .bool r ∧ Own I w' (F)
theorem policy_Right_1.ok (k : Nat) : policy_Right_1.C k := by
 intro x0 x0v0 x0v1 F I w r hG S x0h0 x0h1 H
 have hI := IMem.le.refl I
 rw [policy_Right_1.f] at H
 refine Calls.ofFW (args := [.agg #[x0v0, x0v1, .int .i64 x0.Verdict]]) Tryz.func38 rfl rfl <| sr <| g rfl (o_boxA rfl S fun b1 w S => mv (.bool false) rfl (sq (rg (u rfl (x_ldA tag51 rfl (S.loadW 0 rfl) rfl) ?_))))
 obtain ⟨y2, hy3, H⟩ := obx H
 refine g rfl (cl fb39 (@policy_rule.ok k x0 _ _ _ _ _ _ hG S x0h0 x0h1 hy3) rfl ?_)
 rintro _ w ⟨rfl, S⟩
 refine u rfl (x_not' rfl) <| mv (.bool (!y2)) rfl <| rt ?_
 obtain rfl := si H
 exact ⟨_, ⟨_, rfl, rfl⟩, ⟨rfl, ((S.sel 1 [] rfl).weaken hI)⟩⟩
end Go.Proofs.YtafnenafbognkaaGreatDoor
namespace Go.Proofs.YtafnenafbognkaaGreatDoor
open Sp
set_option maxRecDepth 100000
set_option maxHeartbeats 4000000
def slices_IndexFunc_74_w138.l0 : Nat → (List T_api_Rule) → Int → Option (Sum Int Unit)
  | 0, _, _ => none
  | k + 1, x0, n2 => (if n2 < (x0.length : Int) then ((lat x0 n2).bind fun y11 => ((policy_Right_1.f k y11).bind fun y18 => (if y18 = true then (some (.inl n2)) else (slices_IndexFunc_74_w138.l0 k x0 (i64 (n2 + 1)))))) else (some (.inr ())))
def slices_IndexFunc_74_w138.f (k : Nat) (x0 : (List T_api_Rule)) : Option Int := (((slices_IndexFunc_74_w138.l0 k x0 0) : Option (Sum Int Unit)).bind fun o => match o with | .inl r => some r | .inr _ => (some (-1)))
abbrev slices_IndexFunc_74_w138.C (k : Nat) : Prop := ∀ {x0 : (List T_api_Rule)} {vx0 : Value} {F : List It} {I : IMem} {w : World} {r : Int}, Glob I → Own I w (F) → SlR R_api_Rule I vx0 x0 → slices_IndexFunc_74_w138.f k x0 = some r →
    Calls Tryz.prog 74 #[vx0, .func (.func 38) #[] #[]] w fun e w' => ∃ v, e = .returned v ∧ v = .int .i64 r ∧ Own I w' (F)
theorem slices_IndexFunc_74_w138.ok (k : Nat) : slices_IndexFunc_74_w138.C k := by
 intro x0 vx0 F I w r hG S hx0 H
 have hI := IMem.le.refl I
 rw [slices_IndexFunc_74_w138.f] at H
 refine Calls.ofFW (args := [vx0, .func (.func 38) #[] #[]]) Tryz.func74 rfl rfl <| sr <| mv (.int .i64 0) rfl <| sq <| sr <| mv vx0 rfl <| u rfl (x_lenD (r := R_api_Rule) tsl22 hx0) <| mv (.int .i64 0) rfl <| bk ?_
 obtain ⟨o5, hl7, HO6⟩ := obx H
 refine FW.cutX 0 (fun σ w => ∃ (J8 : IMem), (.inr ()) = o5 ∧ Has σ [] ∧ I.le J8 ∧ Own J8 w (F)) ?_ ?_
 ·refine FW.loop k (FL.ind (fun q σ w => ∃ (n2 : Int) (J1 : IMem), slices_IndexFunc_74_w138.l0 q x0 n2 = some o5 ∧ q ≤ k ∧ Has σ [(0, vx0), (1, .func (.func 38) #[] #[]), (7, .int .i64 (x0.length : Int)), (8, .int .i64 n2)] ∧ I.le J1 ∧ Own J1 w (F)) ?_ ?_ k k _ _ (Nat.le_refl _) ⟨0, I, hl7, Nat.le_refl _, ⟨rfl, rfl, rfl, rfl, trivial⟩, (IMem.le.refl _), S⟩)
  ·rintro σ w ⟨n2, J1, H, _⟩; cases H
  rintro q3 σ w ⟨n2, J1, H, hq9, hσ, hL4, S⟩
  have hx0 := hx0.mono hL4
  have hI := hI.trans hL4
  have hG := hG.mono hL4
  rw [hσ.eq]
  rw [slices_IndexFunc_74_w138.l0] at H
  refine sr <| u rfl (x_bin rfl rfl rfl) <| sq ?_
  by_cases cc10 : n2 < (x0.length : Int)
  ·rw [if_pos cc10] at H
   refine cT rfl (deT cc10) <| sk <| sq <| bk <| sr <| mv (.int .i64 n2) rfl <| mv (.int .i64 n2) rfl <| sr <| mv (.func (.func 38) #[] #[]) rfl <| mv vx0 rfl <| mv (.int .i64 n2) rfl ?_
   obtain ⟨y11, h12, H⟩ := obx H
   refine g rfl (o_ia (r := R_api_Rule) tsl22 rfl rfl hx0 rfl h12 fun b13 o14 cs15 hr16 hc17 => ?_)
   obtain ⟨y11v0, y11v1, rfl, y11h0, y11h1⟩ := hr16
   refine u rfl (x_ldA tag51 rfl (S.loadI hc17) rfl) ?_
   obtain ⟨y18, hy19, H⟩ := obx H
   refine g rfl (clv rfl fb38 (@policy_Right_1.ok q3 y11 _ _ _ _ _ _ hG S y11h0 y11h1 hy19) rfl ?_)
   rintro _ w ⟨rfl, S⟩
   by_cases cc20 : y18 = true
   ·rw [if_pos cc20] at H
    refine cT rfl cc20 <| sq <| FW.anew [(5, .int .i64 n2)] ⟨rfl, trivial⟩ fun σ => rg <| mv (.int .i64 n2) rfl <| mv (.int .i64 n2) rfl <| rt ?_
    obtain rfl := si H
    obtain rfl := si HO6
    exact ⟨_, ⟨_, rfl, rfl⟩, ⟨rfl, (S.weaken hI)⟩⟩
   rw [if_neg cc20] at H
   refine cF rfl (vaF cc20) <| sk <| FW.anew [(0, vx0), (1, .func (.func 38) #[] #[]), (7, .int .i64 (x0.length : Int)), (8, .int .i64 n2)] ⟨rfl, rfl, rfl, rfl, trivial⟩ fun σ => rg <| u rfl (x_bin rfl rfl rfl) <| mv (.int .i64 (i64 (n2 + 1))) rfl ⟨q3, Nat.le_refl _, (i64 (n2 + 1)), J1, H, (Nat.le_of_succ_le hq9), ⟨rfl, rfl, rfl, rfl, trivial⟩, hL4, S⟩
  rw [if_neg cc10] at H
  refine cF rfl (deF cc10) <| ex ⟨J1, (si H), trivial, hL4, S⟩
 rintro σ w ⟨J8, ho, hσ, hL4, S⟩
 subst ho
 have H := HO6
 try dsimp only at H
 have hI := hI.trans hL4
 rw [hσ.eq]
 refine sr <| mv (.int .i64 (-1)) rfl <| rt ?_
 obtain rfl := si H
 exact ⟨_, ⟨_, rfl, rfl⟩, ⟨rfl, (S.weaken hI)⟩⟩
def slices_ContainsFunc_37_w138.f (k : Nat) (x0 : (List T_api_Rule)) : Option Bool := ((slices_IndexFunc_74_w138.f k x0).bind fun y1 => (some (decide (y1 ≥ 0))))
abbrev slices_ContainsFunc_37_w138.C (k : Nat) : Prop := ∀ {x0 : (List T_api_Rule)} {vx0 : Value} {F : List It} {I : IMem} {w : World} {r : Bool}, Glob I → Own I w (F) → SlR R_api_Rule I vx0 x0 → slices_ContainsFunc_37_w138.f k x0 = some r →
    Calls Tryz.prog 37 #[vx0, .func (.func 38) #[] #[]] w fun e w' => ∃ v, e = .returned v ∧ v = .bool r ∧ Own I w' (F)
theorem slices_ContainsFunc_37_w138.ok (k : Nat) : slices_ContainsFunc_37_w138.C k := by
 intro x0 vx0 F I w r hG S hx0 H
 have hI := IMem.le.refl I
 rw [slices_ContainsFunc_37_w138.f] at H
 refine Calls.ofFW (args := [vx0, .func (.func 38) #[] #[]]) Tryz.func37 rfl rfl <| sr <| mv (.bool false) rfl <| sr <| mv vx0 rfl <| mv (.func (.func 38) #[] #[]) rfl ?_
 obtain ⟨y1, hy2, H⟩ := obx H
 refine g rfl (cl fb74 (@slices_IndexFunc_74_w138.ok k x0 _ _ _ _ _ hG S hx0 hy2) rfl ?_)
 rintro _ w ⟨rfl, S⟩
 refine u rfl (x_bin rfl rfl rfl) <| mv (.bool (decide (y1 ≥ 0))) rfl <| rt ?_
 obtain rfl := si H
 exact ⟨_, ⟨_, rfl, rfl⟩, ⟨rfl, (S.weaken hI)⟩⟩
def policy_Right.f (k : Nat) (x0 : (List T_api_Rule)) : Option Bool := (if (x0.length : Int) > 16 then (some false) else ((slices_ContainsFunc_37_w138.f k x0).bind fun y2 => (some (!y2))))
abbrev policy_Right.C (k : Nat) : Prop := ∀ {x0 : (List T_api_Rule)} {vx0 : Value} {F : List It} {I : IMem} {w : World} {r : Bool}, Glob I → Own I w (F) → SlR R_api_Rule I vx0 x0 → policy_Right.f k x0 = some r →
    Calls Tryz.prog 12 #[vx0] w fun e w' => ∃ v, e = .returned v ∧ v = .bool r ∧ Own I w' (F)
theorem policy_Right.ok (k : Nat) : policy_Right.C k := by
 intro x0 vx0 F I w r hG S hx0 H
 have hI := IMem.le.refl I
 rw [policy_Right.f] at H
 refine Calls.ofFW (args := [vx0]) Tryz.func12 rfl rfl <| sr <| mv (.bool false) rfl <| sq <| sr <| mv vx0 rfl <| u rfl (x_lenD (r := R_api_Rule) tsl22 hx0) <| u rfl (x_bin rfl rfl rfl) ?_
 by_cases cc1 : (x0.length : Int) > 16
 ·rw [if_pos cc1] at H
  refine cT rfl (deT cc1) <| sr <| mv (.bool false) rfl <| rt ?_
  obtain rfl := si H
  exact ⟨_, ⟨_, rfl, rfl⟩, ⟨rfl, (S.weaken hI)⟩⟩
 rw [if_neg cc1] at H
 refine cF rfl (deF cc1) <| sk <| sr <| mv vx0 rfl ?_
 obtain ⟨y2, hy3, H⟩ := obx H
 refine g rfl (cl fb37 (@slices_ContainsFunc_37_w138.ok k x0 _ _ _ _ _ hG S hx0 hy3) rfl ?_)
 rintro _ w ⟨rfl, S⟩
 refine u rfl (x_not' rfl) <| mv (.bool (!y2)) rfl <| rt ?_
 obtain rfl := si H
 exact ⟨_, ⟨_, rfl, rfl⟩, ⟨rfl, (S.weaken hI)⟩⟩
def prefix_Holds.f (k : Nat) (x0 : T_api_Prefix) (x1 : Int) : Option Bool := ((prefix_Right.f k x0).bind fun y3 => (if y3 = true then ((prefix_Mask.f k x0.Len).bind fun y6 => (some ((band .u32 (bxor .u32 x0.Addr x1) y6) == 0))) else (some false)))
abbrev prefix_Holds.C (k : Nat) : Prop := ∀ {x0 : T_api_Prefix} {x1 : Int} {F : List It} {I : IMem} {w : World} {r : Bool}, Glob I → Own I w (F) → prefix_Holds.f k x0 x1 = some r →
    Calls Tryz.prog 145 #[.agg #[.int .u32 x0.Addr, .int .i64 x0.Len], .int .u32 x1] w fun e w' => ∃ v, e = .returned v ∧ v = .bool r ∧ Own I w' (F)
theorem prefix_Holds.ok (k : Nat) : prefix_Holds.C k := by
 intro x0 x1 F I w r hG S H
 have hI := IMem.le.refl I
 rw [prefix_Holds.f] at H
 refine Calls.ofFW (args := [.agg #[.int .u32 x0.Addr, .int .i64 x0.Len], .int .u32 x1]) Tryz.func145 rfl rfl <| sr <| g rfl (o_boxA rfl S fun b1 w S => mv (.bool false) rfl (sq ?_))
 have S := S.drew
 refine FW.regionD mixed ?_
 have hO := Hold.nil (w := { w with drawn := w.drawn + 1 })
 have hR2 := IMem.le.refl I
 refine ak (Stab I [.bk b1 36 [.int .u32 x0.Addr, .int .i64 x0.Len]]) 0 rfl (by kernel_rfl) hO (Stab.of S 0 rfl hR2) (fun w hS => x_ldA tag36 rfl (hS.loadW 0 rfl) rfl) fun hO => AQ.one 1 [0] [false] (by kernel_rfl) rfl (by kernel_rfl) ?_
 obtain ⟨y3, hy4, H⟩ := obx H
 refine g rfl (cl fb79 (@prefix_Right.ok k x0 _ _ _ _ hG S hy4) rfl ?_)
 rintro _ w ⟨rfl, S⟩
 refine andI Hold.nil fun hO => am 2 (.bool y3) rfl (by kernel_rfl) hO ?_
 by_cases cc5 : y3 = true
 ·rw [if_pos cc5] at H
  refine AQ.pure 3 rfl (by kernel_rfl) (by kernel_rfl) (by kernel_rfl) (gT rfl rfl cc5) hO (fun w => x_fa tf36_0 rfl) <| AQ.take (S := Stab I [.bk b1 36 [.int .u32 x0.Addr, .int .i64 x0.Len]]) 4 rfl (by kernel_rfl) (by kernel_rfl) (by kernel_rfl) (gT rfl rfl cc5) hO (Stab.of S 0 rfl hR2) (fun w hS => x_ld tsc23 rfl (hS.load 0 rfl 0 rfl)) fun hO => AQ.pure 5 rfl (by kernel_rfl) (by kernel_rfl) (by kernel_rfl) (gT rfl rfl cc5) hO (fun w => x_movV (v := .int .u32 x1) rfl) <| AQ.pure 6 rfl (by kernel_rfl) (by kernel_rfl) (by kernel_rfl) (gT rfl rfl cc5) hO (fun w => x_bin rfl rfl rfl) <| AQ.pure 7 rfl (by kernel_rfl) (by kernel_rfl) (by kernel_rfl) (gT rfl rfl cc5) hO (fun w => x_fa tf36_1 rfl) <| AQ.take (S := Stab I [.bk b1 36 [.int .u32 x0.Addr, .int .i64 x0.Len]]) 8 rfl (by kernel_rfl) (by kernel_rfl) (by kernel_rfl) (gT rfl rfl cc5) hO (Stab.of S 0 rfl hR2) (fun w hS => x_ld tsc3 rfl (hS.load 0 rfl 1 rfl)) fun hO => AQ.one 9 [8, 4] [false, true] (by kernel_rfl) rfl (by kernel_rfl) ?_
  obtain ⟨y6, hy7, H⟩ := obx H
  refine OK.gt rfl rfl rfl cc5 (cl fb111 (@prefix_Mask.ok k x0.Len _ _ _ _ hG S hy7) rfl ?_)
  rintro _ w ⟨rfl, S⟩
  refine andI (Hold.cons (Stab.of S 0 rfl hR2) Hold.nil) fun hO => AQ.pure 10 rfl (by kernel_rfl) (by kernel_rfl) (by kernel_rfl) (gT rfl rfl cc5) hO (fun w => x_bin rfl rfl rfl) <| AQ.pure 11 rfl (by kernel_rfl) (by kernel_rfl) (by kernel_rfl) (gT rfl rfl cc5) hO (fun w => x_bin rfl rfl rfl) <| ap 12 rfl (by kernel_rfl) hO (fun w => x_pickTV (v := .bool ((band .u32 (bxor .u32 x0.Addr x1) y6) == 0)) rfl cc5 rfl) <| ap 13 rfl (by kernel_rfl) hO (fun w => x_asgV (v := .bool ((band .u32 (bxor .u32 x0.Addr x1) y6) == 0)) rfl) <| AQ.done (by kernel_rfl) <| rt ?_
  obtain rfl := si H
  exact ⟨_, ⟨_, rfl, rfl⟩, ⟨rfl, ((S.sel 1 [] rfl).weaken hI)⟩⟩
 rw [if_neg cc5] at H
 refine AQ.skip 3 rfl (by kernel_rfl) (by kernel_rfl) (by kernel_rfl) rfl rfl (vaF cc5) hO <| AQ.skip 4 rfl (by kernel_rfl) (by kernel_rfl) (by kernel_rfl) rfl rfl (vaF cc5) hO <| AQ.skip 5 rfl (by kernel_rfl) (by kernel_rfl) (by kernel_rfl) rfl rfl (vaF cc5) hO <| AQ.skip 6 rfl (by kernel_rfl) (by kernel_rfl) (by kernel_rfl) rfl rfl (vaF cc5) hO <| AQ.skip 7 rfl (by kernel_rfl) (by kernel_rfl) (by kernel_rfl) rfl rfl (vaF cc5) hO <| AQ.skip 8 rfl (by kernel_rfl) (by kernel_rfl) (by kernel_rfl) rfl rfl (vaF cc5) hO <| AQ.skip 9 rfl (by kernel_rfl) (by kernel_rfl) (by kernel_rfl) rfl rfl (vaF cc5) hO <| AQ.skip 10 rfl (by kernel_rfl) (by kernel_rfl) (by kernel_rfl) rfl rfl (vaF cc5) hO <| AQ.skip 11 rfl (by kernel_rfl) (by kernel_rfl) (by kernel_rfl) rfl rfl (vaF cc5) hO <| ap 12 rfl (by kernel_rfl) hO (fun w => x_pickFV (v := .bool false) rfl (vaF cc5) rfl) <| ap 13 rfl (by kernel_rfl) hO (fun w => x_asgV (v := .bool false) rfl) <| AQ.done (by kernel_rfl) <| rt ?_
 obtain rfl := si H
 exact ⟨_, ⟨_, rfl, rfl⟩, ⟨rfl, ((S.sel 1 [] rfl).weaken hI)⟩⟩
def prefix_Covers.f (k : Nat) (x0 : T_api_Prefix) (x1 : T_api_Prefix) : Option Bool := ((prefix_Right.f k x1).bind fun y3 => (if y3 = true then (if x1.Len ≥ x0.Len then ((prefix_Holds.f k x0 x1.Addr).bind fun y7 => (some y7)) else (some false)) else (some false)))
abbrev prefix_Covers.C (k : Nat) : Prop := ∀ {x0 : T_api_Prefix} {x1 : T_api_Prefix} {F : List It} {I : IMem} {w : World} {r : Bool}, Glob I → Own I w (F) → prefix_Covers.f k x0 x1 = some r →
    Calls Tryz.prog 121 #[.agg #[.int .u32 x0.Addr, .int .i64 x0.Len], .agg #[.int .u32 x1.Addr, .int .i64 x1.Len]] w fun e w' => ∃ v, e = .returned v ∧ v = .bool r ∧ Own I w' (F)
theorem prefix_Covers.ok (k : Nat) : prefix_Covers.C k := by
 intro x0 x1 F I w r hG S H
 have hI := IMem.le.refl I
 rw [prefix_Covers.f] at H
 refine Calls.ofFW (args := [.agg #[.int .u32 x0.Addr, .int .i64 x0.Len], .agg #[.int .u32 x1.Addr, .int .i64 x1.Len]]) Tryz.func121 rfl rfl <| sr <| g rfl (o_boxA rfl S fun b1 w S => g rfl (o_boxA rfl S fun b2 w S => mv (.bool false) rfl (sq (rg (u rfl (x_ldA tag36 rfl (S.loadW 0 rfl) rfl) ?_)))))
 obtain ⟨y3, hy4, H⟩ := obx H
 refine g rfl (cl fb79 (@prefix_Right.ok k x1 _ _ _ _ hG S hy4) rfl ?_)
 rintro _ w ⟨rfl, S⟩
 refine mv (.bool y3) rfl ?_
 by_cases cc5 : y3 = true
 ·rw [if_pos cc5] at H
  refine gu rfl rfl rfl cc5 (x_fa tf36_1 rfl) <| gu rfl rfl rfl cc5 (x_ld tsc3 rfl (S.load 0 rfl 1 rfl)) <| gu rfl rfl rfl cc5 (x_fa tf36_1 rfl) <| gu rfl rfl rfl cc5 (x_ld tsc3 rfl (S.load 1 rfl 1 rfl)) <| gu rfl rfl rfl cc5 (x_bin rfl rfl rfl) <| u rfl (x_pickTV (v := .bool (decide (x1.Len ≥ x0.Len))) rfl cc5 rfl) <| mv (.bool (decide (x1.Len ≥ x0.Len))) rfl ?_
  by_cases cc6 : x1.Len ≥ x0.Len
  ·rw [if_pos cc6] at H
   refine gu rfl rfl rfl (deT cc6) (x_ldA tag36 rfl (S.loadW 1 rfl) rfl) <| gu rfl rfl rfl (deT cc6) (x_fa tf36_0 rfl) <| gu rfl rfl rfl (deT cc6) (x_ld tsc23 rfl (S.load 0 rfl 0 rfl)) ?_
   obtain ⟨y7, hy8, H⟩ := obx H
   refine OK.gt rfl rfl rfl (deT cc6) (cl fb145 (@prefix_Holds.ok k x0 x1.Addr _ _ _ _ hG S hy8) rfl ?_)
   rintro _ w ⟨rfl, S⟩
   refine u rfl (x_pickTV (v := .bool y7) rfl (deT cc6) rfl) <| mv (.bool y7) rfl <| rt ?_
   obtain rfl := si H
   exact ⟨_, ⟨_, rfl, rfl⟩, ⟨rfl, ((S.sel 2 [] rfl).weaken hI)⟩⟩
  rw [if_neg cc6] at H
  refine gn rfl rfl rfl (deF cc6) <| gn rfl rfl rfl (deF cc6) <| gn rfl rfl rfl (deF cc6) <| gn rfl rfl rfl (deF cc6) <| u rfl (x_pickFV (v := .bool false) rfl (deF cc6) rfl) <| mv (.bool false) rfl <| rt ?_
  obtain rfl := si H
  exact ⟨_, ⟨_, rfl, rfl⟩, ⟨rfl, ((S.sel 2 [] rfl).weaken hI)⟩⟩
 rw [if_neg cc5] at H
 refine gn rfl rfl rfl (vaF cc5) <| gn rfl rfl rfl (vaF cc5) <| gn rfl rfl rfl (vaF cc5) <| gn rfl rfl rfl (vaF cc5) <| gn rfl rfl rfl (vaF cc5) <| u rfl (x_pickFV (v := .bool false) rfl (vaF cc5) rfl) <| mv (.bool false) rfl <| gn rfl rfl rfl rfl <| gn rfl rfl rfl rfl <| gn rfl rfl rfl rfl <| gn rfl rfl rfl rfl <| u rfl (x_pickFV (v := .bool false) rfl rfl rfl) <| mv (.bool false) rfl <| rt ?_
 obtain rfl := si H
 exact ⟨_, ⟨_, rfl, rfl⟩, ⟨rfl, ((S.sel 2 [] rfl).weaken hI)⟩⟩
def filter_In.f (k : Nat) (x0 : T_api_Range) (x1 : T_api_Prefix) : Option Bool := ((filter_Right.f k x0).bind fun y3 => (if y3 = true then ((prefix_Covers.f k x0.Prefix x1).bind fun y6 => (if y6 = true then (if x1.Len ≥ x0.Min then (some (decide (x1.Len ≤ x0.Max))) else (some false)) else (some false))) else (some false)))
abbrev filter_In.C (k : Nat) : Prop := ∀ {x0 : T_api_Range} {x1 : T_api_Prefix} {F : List It} {I : IMem} {w : World} {r : Bool}, Glob I → Own I w (F) → filter_In.f k x0 x1 = some r →
    Calls Tryz.prog 89 #[.agg #[.int .u32 x0.Prefix.Addr, .int .i64 x0.Prefix.Len, .int .i64 x0.Min, .int .i64 x0.Max], .agg #[.int .u32 x1.Addr, .int .i64 x1.Len]] w fun e w' => ∃ v, e = .returned v ∧ v = .bool r ∧ Own I w' (F)
theorem filter_In.ok (k : Nat) : filter_In.C k := by
 intro x0 x1 F I w r hG S H
 have hI := IMem.le.refl I
 rw [filter_In.f] at H
 refine Calls.ofFW (args := [.agg #[.int .u32 x0.Prefix.Addr, .int .i64 x0.Prefix.Len, .int .i64 x0.Min, .int .i64 x0.Max], .agg #[.int .u32 x1.Addr, .int .i64 x1.Len]]) Tryz.func89 rfl rfl <| sr <| g rfl (o_boxA rfl S fun b1 w S => g rfl (o_boxA rfl S fun b2 w S => mv (.bool false) rfl (sq (rg (u rfl (x_ldA tag69 rfl (S.loadW 1 rfl) rfl) ?_)))))
 obtain ⟨y3, hy4, H⟩ := obx H
 refine g rfl (cl fb41 (@filter_Right.ok k x0 _ _ _ _ hG S hy4) rfl ?_)
 rintro _ w ⟨rfl, S⟩
 refine mv (.bool y3) rfl ?_
 by_cases cc5 : y3 = true
 ·rw [if_pos cc5] at H
  refine gu rfl rfl rfl cc5 (x_fa tf69_0 rfl) <| gu rfl rfl rfl cc5 (x_ldA tag36 rfl (S.loadN 1 rfl 0 2) rfl) <| gu rfl rfl rfl cc5 (x_ldA tag36 rfl (S.loadW 0 rfl) rfl) ?_
  obtain ⟨y6, hy7, H⟩ := obx H
  refine OK.gt rfl rfl rfl cc5 (cl fb121 (@prefix_Covers.ok k x0.Prefix x1 _ _ _ _ hG S hy7) rfl ?_)
  rintro _ w ⟨rfl, S⟩
  refine u rfl (x_pickTV (v := .bool y6) rfl cc5 rfl) <| mv (.bool y6) rfl ?_
  by_cases cc8 : y6 = true
  ·rw [if_pos cc8] at H
   refine gu rfl rfl rfl cc8 (x_fa tf36_1 rfl) <| gu rfl rfl rfl cc8 (x_ld tsc3 rfl (S.load 0 rfl 1 rfl)) <| gu rfl rfl rfl cc8 (x_fa tf69_1 rfl) <| gu rfl rfl rfl cc8 (x_ld tsc3 rfl (S.load 1 rfl 2 rfl)) <| gu rfl rfl rfl cc8 (x_bin rfl rfl rfl) <| u rfl (x_pickTV (v := .bool (decide (x1.Len ≥ x0.Min))) rfl cc8 rfl) <| mv (.bool (decide (x1.Len ≥ x0.Min))) rfl ?_
   by_cases cc9 : x1.Len ≥ x0.Min
   ·rw [if_pos cc9] at H
    refine gu rfl rfl rfl (deT cc9) (x_fa tf36_1 rfl) <| gu rfl rfl rfl (deT cc9) (x_ld tsc3 rfl (S.load 0 rfl 1 rfl)) <| gu rfl rfl rfl (deT cc9) (x_fa tf69_2 rfl) <| gu rfl rfl rfl (deT cc9) (x_ld tsc3 rfl (S.load 1 rfl 3 rfl)) <| gu rfl rfl rfl (deT cc9) (x_bin rfl rfl rfl) <| u rfl (x_pickTV (v := .bool (decide (x1.Len ≤ x0.Max))) rfl (deT cc9) rfl) <| mv (.bool (decide (x1.Len ≤ x0.Max))) rfl <| rt ?_
    obtain rfl := si H
    exact ⟨_, ⟨_, rfl, rfl⟩, ⟨rfl, ((S.sel 2 [] rfl).weaken hI)⟩⟩
   rw [if_neg cc9] at H
   refine gn rfl rfl rfl (deF cc9) <| gn rfl rfl rfl (deF cc9) <| gn rfl rfl rfl (deF cc9) <| gn rfl rfl rfl (deF cc9) <| gn rfl rfl rfl (deF cc9) <| u rfl (x_pickFV (v := .bool false) rfl (deF cc9) rfl) <| mv (.bool false) rfl <| rt ?_
   obtain rfl := si H
   exact ⟨_, ⟨_, rfl, rfl⟩, ⟨rfl, ((S.sel 2 [] rfl).weaken hI)⟩⟩
  rw [if_neg cc8] at H
  refine gn rfl rfl rfl (vaF cc8) <| gn rfl rfl rfl (vaF cc8) <| gn rfl rfl rfl (vaF cc8) <| gn rfl rfl rfl (vaF cc8) <| gn rfl rfl rfl (vaF cc8) <| u rfl (x_pickFV (v := .bool false) rfl (vaF cc8) rfl) <| mv (.bool false) rfl <| gn rfl rfl rfl rfl <| gn rfl rfl rfl rfl <| gn rfl rfl rfl rfl <| gn rfl rfl rfl rfl <| gn rfl rfl rfl rfl <| u rfl (x_pickFV (v := .bool false) rfl rfl rfl) <| mv (.bool false) rfl <| rt ?_
  obtain rfl := si H
  exact ⟨_, ⟨_, rfl, rfl⟩, ⟨rfl, ((S.sel 2 [] rfl).weaken hI)⟩⟩
 rw [if_neg cc5] at H
 refine gn rfl rfl rfl (vaF cc5) <| gn rfl rfl rfl (vaF cc5) <| gn rfl rfl rfl (vaF cc5) <| gn rfl rfl rfl (vaF cc5) <| u rfl (x_pickFV (v := .bool false) rfl (vaF cc5) rfl) <| mv (.bool false) rfl <| gn rfl rfl rfl rfl <| gn rfl rfl rfl rfl <| gn rfl rfl rfl rfl <| gn rfl rfl rfl rfl <| gn rfl rfl rfl rfl <| u rfl (x_pickFV (v := .bool false) rfl rfl rfl) <| mv (.bool false) rfl <| gn rfl rfl rfl rfl <| gn rfl rfl rfl rfl <| gn rfl rfl rfl rfl <| gn rfl rfl rfl rfl <| gn rfl rfl rfl rfl <| u rfl (x_pickFV (v := .bool false) rfl rfl rfl) <| mv (.bool false) rfl <| rt ?_
 obtain rfl := si H
 exact ⟨_, ⟨_, rfl, rfl⟩, ⟨rfl, ((S.sel 2 [] rfl).weaken hI)⟩⟩
def filter_Any_1.f (k : Nat) (x0 : T_api_Range) (x1 : T_api_Prefix) : Option Bool := ((filter_In.f k x0 x1).bind fun y2 => (some y2))
abbrev filter_Any_1.C (k : Nat) : Prop := ∀ {x0 : T_api_Range} {x1 : T_api_Prefix} {bx1 : Nat} {F : List It} {I : IMem} {w : World} {r : Bool}, Glob I → Own I w (.bk bx1 36 [.int .u32 x1.Addr, .int .i64 x1.Len] :: F) → filter_Any_1.f k x0 x1 = some r →
    Calls Tryz.prog 88 #[.agg #[.int .u32 x0.Prefix.Addr, .int .i64 x0.Prefix.Len, .int .i64 x0.Min, .int .i64 x0.Max], pt bx1] w fun e w' => ∃ v, e = .returned v ∧ v = .bool r ∧ Own I w' (.bk bx1 36 [.int .u32 x1.Addr, .int .i64 x1.Len] :: F)
theorem filter_Any_1.ok (k : Nat) : filter_Any_1.C k := by
 intro x0 x1 bx1 F I w r hG S H
 have hI := IMem.le.refl I
 rw [filter_Any_1.f] at H
 refine Calls.ofFW (args := [.agg #[.int .u32 x0.Prefix.Addr, .int .i64 x0.Prefix.Len, .int .i64 x0.Min, .int .i64 x0.Max], pt bx1]) Tryz.func88 rfl rfl <| sr <| g rfl (o_boxA rfl S fun b1 w S => mv (.bool false) rfl (sq (rg (u rfl (x_ldA tag69 rfl (S.loadW 0 rfl) rfl) (u rfl (x_ldA tag36 rfl (S.loadW 1 rfl) rfl) ?_)))))
 obtain ⟨y2, hy3, H⟩ := obx H
 refine g rfl (cl fb89 (@filter_In.ok k x0 x1 _ _ _ _ hG S hy3) rfl ?_)
 rintro _ w ⟨rfl, S⟩
 refine mv (.bool y2) rfl <| rt ?_
 obtain rfl := si H
 exact ⟨_, ⟨_, rfl, rfl⟩, ⟨rfl, ((S.sel 2 [1] rfl).weaken hI)⟩⟩
def slices_IndexFunc_80_w188.l0 : Nat → (List T_api_Range) → T_api_Prefix → Int → Option (Sum Int Unit)
  | 0, _, _, _ => none
  | k + 1, x0, x1_0, n2 => (if n2 < (x0.length : Int) then ((lat x0 n2).bind fun y11 => ((filter_Any_1.f k y11 x1_0).bind fun y18 => (if y18 = true then (some (.inl n2)) else (slices_IndexFunc_80_w188.l0 k x0 x1_0 (i64 (n2 + 1)))))) else (some (.inr ())))
def slices_IndexFunc_80_w188.f (k : Nat) (x0 : (List T_api_Range)) (x1_0 : T_api_Prefix) : Option Int := (((slices_IndexFunc_80_w188.l0 k x0 x1_0 0) : Option (Sum Int Unit)).bind fun o => match o with | .inl r => some r | .inr _ => (some (-1)))
abbrev slices_IndexFunc_80_w188.C (k : Nat) : Prop := ∀ {x0 : (List T_api_Range)} {x1_0 : T_api_Prefix} {vx0 : Value} {bx1_0 : Nat} {F : List It} {I : IMem} {w : World} {r : Int}, Glob I → Own I w (.bk bx1_0 36 [.int .u32 x1_0.Addr, .int .i64 x1_0.Len] :: F) → SlR R_api_Range I vx0 x0 → slices_IndexFunc_80_w188.f k x0 x1_0 = some r →
    Calls Tryz.prog 80 #[vx0, .func (.func 88) #[] #[pt bx1_0]] w fun e w' => ∃ v, e = .returned v ∧ v = .int .i64 r ∧ Own I w' (.bk bx1_0 36 [.int .u32 x1_0.Addr, .int .i64 x1_0.Len] :: F)
theorem slices_IndexFunc_80_w188.ok (k : Nat) : slices_IndexFunc_80_w188.C k := by
 intro x0 x1_0 vx0 bx1_0 F I w r hG S hx0 H
 have hI := IMem.le.refl I
 rw [slices_IndexFunc_80_w188.f] at H
 refine Calls.ofFW (args := [vx0, .func (.func 88) #[] #[pt bx1_0]]) Tryz.func80 rfl rfl <| sr <| mv (.int .i64 0) rfl <| sq <| sr <| mv vx0 rfl <| u rfl (x_lenD (r := R_api_Range) tsl24 hx0) <| mv (.int .i64 0) rfl <| bk ?_
 obtain ⟨o5, hl7, HO6⟩ := obx H
 refine FW.cutX 0 (fun σ w => ∃ (J8 : IMem), (.inr ()) = o5 ∧ Has σ [] ∧ I.le J8 ∧ Own J8 w (.bk bx1_0 36 [.int .u32 x1_0.Addr, .int .i64 x1_0.Len] :: F)) ?_ ?_
 ·refine FW.loop k (FL.ind (fun q σ w => ∃ (n2 : Int) (J1 : IMem), slices_IndexFunc_80_w188.l0 q x0 x1_0 n2 = some o5 ∧ q ≤ k ∧ Has σ [(0, vx0), (1, .func (.func 88) #[] #[pt bx1_0]), (7, .int .i64 (x0.length : Int)), (8, .int .i64 n2)] ∧ I.le J1 ∧ Own J1 w (.bk bx1_0 36 [.int .u32 x1_0.Addr, .int .i64 x1_0.Len] :: F)) ?_ ?_ k k _ _ (Nat.le_refl _) ⟨0, I, hl7, Nat.le_refl _, ⟨rfl, rfl, rfl, rfl, trivial⟩, (IMem.le.refl _), S⟩)
  ·rintro σ w ⟨n2, J1, H, _⟩; cases H
  rintro q3 σ w ⟨n2, J1, H, hq9, hσ, hL4, S⟩
  have hx0 := hx0.mono hL4
  have hI := hI.trans hL4
  have hG := hG.mono hL4
  rw [hσ.eq]
  rw [slices_IndexFunc_80_w188.l0] at H
  refine sr <| u rfl (x_bin rfl rfl rfl) <| sq ?_
  by_cases cc10 : n2 < (x0.length : Int)
  ·rw [if_pos cc10] at H
   refine cT rfl (deT cc10) <| sk <| sq <| bk <| sr <| mv (.int .i64 n2) rfl <| mv (.int .i64 n2) rfl <| sr <| mv (.func (.func 88) #[] #[pt bx1_0]) rfl <| mv vx0 rfl <| mv (.int .i64 n2) rfl ?_
   obtain ⟨y11, h12, H⟩ := obx H
   refine g rfl (o_ia (r := R_api_Range) tsl24 rfl rfl hx0 rfl h12 fun b13 o14 cs15 hr16 hc17 => ?_)
   obtain rfl := hr16
   refine u rfl (x_ldA tag69 rfl (S.loadI hc17) rfl) ?_
   obtain ⟨y18, hy19, H⟩ := obx H
   refine g rfl (clv rfl fb88 (@filter_Any_1.ok q3 y11 x1_0 _ _ _ _ _ hG S hy19) rfl ?_)
   rintro _ w ⟨rfl, S⟩
   by_cases cc20 : y18 = true
   ·rw [if_pos cc20] at H
    refine cT rfl cc20 <| sq <| FW.anew [(5, .int .i64 n2)] ⟨rfl, trivial⟩ fun σ => rg <| mv (.int .i64 n2) rfl <| mv (.int .i64 n2) rfl <| rt ?_
    obtain rfl := si H
    obtain rfl := si HO6
    exact ⟨_, ⟨_, rfl, rfl⟩, ⟨rfl, (S.weaken hI)⟩⟩
   rw [if_neg cc20] at H
   refine cF rfl (vaF cc20) <| sk <| FW.anew [(0, vx0), (1, .func (.func 88) #[] #[pt bx1_0]), (7, .int .i64 (x0.length : Int)), (8, .int .i64 n2)] ⟨rfl, rfl, rfl, rfl, trivial⟩ fun σ => rg <| u rfl (x_bin rfl rfl rfl) <| mv (.int .i64 (i64 (n2 + 1))) rfl ⟨q3, Nat.le_refl _, (i64 (n2 + 1)), J1, H, (Nat.le_of_succ_le hq9), ⟨rfl, rfl, rfl, rfl, trivial⟩, hL4, S⟩
  rw [if_neg cc10] at H
  refine cF rfl (deF cc10) <| ex ⟨J1, (si H), trivial, hL4, S⟩
 rintro σ w ⟨J8, ho, hσ, hL4, S⟩
 subst ho
 have H := HO6
 try dsimp only at H
 have hI := hI.trans hL4
 rw [hσ.eq]
 refine sr <| mv (.int .i64 (-1)) rfl <| rt ?_
 obtain rfl := si H
 exact ⟨_, ⟨_, rfl, rfl⟩, ⟨rfl, (S.weaken hI)⟩⟩
def slices_ContainsFunc_42_w188.f (k : Nat) (x0 : (List T_api_Range)) (x1_0 : T_api_Prefix) : Option Bool := ((slices_IndexFunc_80_w188.f k x0 x1_0).bind fun y1 => (some (decide (y1 ≥ 0))))
abbrev slices_ContainsFunc_42_w188.C (k : Nat) : Prop := ∀ {x0 : (List T_api_Range)} {x1_0 : T_api_Prefix} {vx0 : Value} {bx1_0 : Nat} {F : List It} {I : IMem} {w : World} {r : Bool}, Glob I → Own I w (.bk bx1_0 36 [.int .u32 x1_0.Addr, .int .i64 x1_0.Len] :: F) → SlR R_api_Range I vx0 x0 → slices_ContainsFunc_42_w188.f k x0 x1_0 = some r →
    Calls Tryz.prog 42 #[vx0, .func (.func 88) #[] #[pt bx1_0]] w fun e w' => ∃ v, e = .returned v ∧ v = .bool r ∧ Own I w' (.bk bx1_0 36 [.int .u32 x1_0.Addr, .int .i64 x1_0.Len] :: F)
theorem slices_ContainsFunc_42_w188.ok (k : Nat) : slices_ContainsFunc_42_w188.C k := by
 intro x0 x1_0 vx0 bx1_0 F I w r hG S hx0 H
 have hI := IMem.le.refl I
 rw [slices_ContainsFunc_42_w188.f] at H
 refine Calls.ofFW (args := [vx0, .func (.func 88) #[] #[pt bx1_0]]) Tryz.func42 rfl rfl <| sr <| mv (.bool false) rfl <| sr <| mv vx0 rfl <| mv (.func (.func 88) #[] #[pt bx1_0]) rfl ?_
 obtain ⟨y1, hy2, H⟩ := obx H
 refine g rfl (cl fb80 (@slices_IndexFunc_80_w188.ok k x0 x1_0 _ _ _ _ _ _ hG S hx0 hy2) rfl ?_)
 rintro _ w ⟨rfl, S⟩
 refine u rfl (x_bin rfl rfl rfl) <| mv (.bool (decide (y1 ≥ 0))) rfl <| rt ?_
 obtain rfl := si H
 exact ⟨_, ⟨_, rfl, rfl⟩, ⟨rfl, (S.weaken hI)⟩⟩
def filter_Any.f (k : Nat) (x0 : (List T_api_Range)) (x1 : T_api_Prefix) : Option Bool := ((slices_ContainsFunc_42_w188.f k x0 x1).bind fun y2 => (some y2))
abbrev filter_Any.C (k : Nat) : Prop := ∀ {x0 : (List T_api_Range)} {x1 : T_api_Prefix} {vx0 : Value} {F : List It} {I : IMem} {w : World} {r : Bool}, Glob I → Own I w (F) → SlR R_api_Range I vx0 x0 → filter_Any.f k x0 x1 = some r →
    Calls Tryz.prog 49 #[vx0, .agg #[.int .u32 x1.Addr, .int .i64 x1.Len]] w fun e w' => ∃ v, e = .returned v ∧ v = .bool r ∧ Own I w' (F)
theorem filter_Any.ok (k : Nat) : filter_Any.C k := by
 intro x0 x1 vx0 F I w r hG S hx0 H
 have hI := IMem.le.refl I
 rw [filter_Any.f] at H
 refine Calls.ofFW (args := [vx0, .agg #[.int .u32 x1.Addr, .int .i64 x1.Len]]) Tryz.func49 rfl rfl <| sr <| g rfl (o_boxA rfl S fun b1 w S => mv (.bool false) rfl (sq (rg (mv vx0 rfl (u rfl (x_mkfL (l := [pt b1]) rfl) ?_)))))
 obtain ⟨y2, hy3, H⟩ := obx H
 refine g rfl (cl fb42 (@slices_ContainsFunc_42_w188.ok k x0 x1 _ _ _ _ _ _ hG S hx0 hy3) rfl ?_)
 rintro _ w ⟨rfl, S⟩
 refine mv (.bool y2) rfl <| rt ?_
 obtain rfl := si H
 exact ⟨_, ⟨_, rfl, rfl⟩, ⟨rfl, ((S.sel 1 [] rfl).weaken hI)⟩⟩
def aspath_Flat_1.f (k : Nat) (x0 : T_api_Segment) : Option (List Int) := (some x0.AS)
abbrev aspath_Flat_1.C (k : Nat) : Prop := ∀ {x0 : T_api_Segment} {x0v1 : Value} {F : List It} {I : IMem} {w : World} {r : (List Int)}, Glob I → Own I w (F) → SlR (tInt' .u32) I x0v1 x0.AS → aspath_Flat_1.f k x0 = some r →
    Calls Tryz.prog 93 #[.agg #[.int .i64 x0.Kind, x0v1]] w fun e w' => ∃ v, e = .returned v ∧ ∃ (vy_0 : Value) (J : IMem), I.le J ∧ v = vy_0 ∧ SlR (tInt' .u32) J vy_0 r ∧ Own J w' (F)
theorem aspath_Flat_1.ok (k : Nat) : aspath_Flat_1.C k := by
 intro x0 x0v1 F I w r hG S x0h1 H
 have hI := IMem.le.refl I
 rw [aspath_Flat_1.f] at H
 refine Calls.ofFW (args := [.agg #[.int .i64 x0.Kind, x0v1]]) Tryz.func93 rfl rfl <| sr <| g rfl (o_boxA rfl S fun b1 w S => mv ((.slice none 0 0)) rfl (sq (rg (u rfl (x_fa tf88_1 rfl) (u rfl (x_ld tsc25 rfl (S.load 0 rfl 1 rfl)) (mv x0v1 rfl (rt ?_)))))))
 obtain rfl := si H
 exact ⟨_, ⟨_, rfl, rfl⟩, ⟨x0v1, I, hI, rfl, x0h1, (S.sel 1 [] rfl)⟩⟩
def aspath_gathered_92_w193.l0 : Nat → (List T_api_Segment) → (List Int) → Int → Option (List Int)
  | 0, _, _, _ => none
  | k + 1, x0, l3, n6 => (if n6 < (x0.length : Int) then ((lat x0 n6).bind fun y18 => ((aspath_Flat_1.f k y18).bind fun y26 => ((app 4 l3 y26).bind fun l30 => (aspath_gathered_92_w193.l0 k x0 l30 (i64 (n6 + 1)))))) else (some l3))
def aspath_gathered_92_w193.f (k : Nat) (x0 : (List T_api_Segment)) : Option (List Int) := ((aspath_gathered_92_w193.l0 k x0 [] 0).bind fun l13 => (some l13))
abbrev aspath_gathered_92_w193.C (k : Nat) : Prop := ∀ {x0 : (List T_api_Segment)} {vx0 : Value} {F : List It} {I : IMem} {w : World} {r : (List Int)}, Glob I → Own I w (F) → SlR R_api_Segment I vx0 x0 → aspath_gathered_92_w193.f k x0 = some r →
    Calls Tryz.prog 92 #[vx0, .func (.func 93) #[] #[]] w fun e w' => ∃ v, e = .returned v ∧ ∃ (vy_0 : Value) (J : IMem), I.le J ∧ v = vy_0 ∧ SlR (tInt' .u32) J vy_0 r ∧ Own J w' (.tv vy_0 23 1 :: F)
theorem aspath_gathered_92_w193.ok (k : Nat) : aspath_gathered_92_w193.C k := by
 intro x0 vx0 F I w r hG S hx0 H
 have hI := IMem.le.refl I
 rw [aspath_gathered_92_w193.f] at H
 refine Calls.ofFW (args := [vx0, .func (.func 93) #[] #[]]) Tryz.func92 rfl rfl <| sr <| mv ((.slice none 0 0)) rfl <| sr <| mv ((.slice none 0 0)) rfl <| sq <| sr <| mv vx0 rfl <| u rfl (x_lenD (r := R_api_Segment) tsl37 hx0) <| mv (.int .i64 0) rfl <| bk ?_
 have S := S.nil_tv 23 1
 obtain ⟨o9, hl11, HO10⟩ := obx H
 refine FW.cutX 0 (fun σ w => ∃ (l13 : (List Int)) (v14 : Value) (J12 : IMem), l13 = o9 ∧ Has σ [(5, v14)] ∧ I.le J12 ∧ Own J12 w (.tv v14 23 1 :: F) ∧ SlR (tInt' .u32) J12 v14 l13) ?_ ?_
 ·refine FW.loop k (FL.ind (fun q σ w => ∃ (l3 : (List Int)) (n6 : Int) (v4 : Value) (J2 : IMem), aspath_gathered_92_w193.l0 q x0 l3 n6 = some o9 ∧ q ≤ k ∧ Has σ [(1, .func (.func 93) #[] #[]), (5, v4), (8, vx0), (9, .int .i64 (x0.length : Int)), (10, .int .i64 n6)] ∧ I.le J2 ∧ Own J2 w (.tv v4 23 1 :: F) ∧ SlR (tInt' .u32) J2 v4 l3) ?_ ?_ k k _ _ (Nat.le_refl _) ⟨[], 0, (.slice none 0 0), I, hl11, Nat.le_refl _, ⟨rfl, rfl, rfl, rfl, rfl, trivial⟩, (IMem.le.refl _), S, (SlR.nil _ _)⟩)
  ·rintro σ w ⟨l3, n6, v4, J2, H, _⟩; cases H
  rintro q7 σ w ⟨l3, n6, v4, J2, H, hq16, hσ, hL8, S, h5⟩
  have hx0 := hx0.mono hL8
  have hG := hG.mono hL8
  rw [hσ.eq]
  rw [aspath_gathered_92_w193.l0] at H
  refine sr <| u rfl (x_bin rfl rfl rfl) <| sq ?_
  by_cases cc17 : n6 < (x0.length : Int)
  ·rw [if_pos cc17] at H
   refine cT rfl (deT cc17) <| sk <| sq <| bk <| sq <| rg ?_
   obtain ⟨y18, h19, H⟩ := obx H
   refine g rfl (o_ia (r := R_api_Segment) tsl37 rfl rfl hx0 rfl h19 fun b20 o21 cs22 hr23 hc24 => ?_)
   obtain ⟨y18v1, rfl, y18h1⟩ := hr23
   refine u rfl (x_ldA tag88 rfl (S.loadI hc24) rfl) <| g rfl (o_all tz88 S fun b25 w S => g rfl (o_stA tag88 S 0 rfl rfl rfl rfl (c1 rfl (c1 y18h1.one c0)) rfl fun w S => rg (mv v4 rfl (mv (.func (.func 93) #[] #[]) rfl (u rfl (x_ldA tag88 rfl (S.loadW 0 rfl) rfl) ?_)))))
   obtain ⟨y26, hy27, H⟩ := obx H
   refine g rfl (clv rfl fb93 (@aspath_Flat_1.ok q7 y18 _ _ _ _ _ hG S y18h1 hy27) rfl ?_)
   rintro vy26_0 w ⟨vy26_0q, J28, hJ29, rfl, hy26_0, S⟩
   have h5 := h5.mono hJ29
   have hL8 := hL8.trans hJ29
   obtain ⟨l30, h32, H⟩ := obx H
   refine g rfl (o_appD (r := (tInt' .u32)) tsl25 rfl tz23 rfl rfl S 1 rfl rfl h5 hy26_0 h32 fun v31 w J34 hJ35 S h33 => ?_)
   have hL8 := hL8.trans hJ35
   refine mv v31 rfl <| FW.anew [(1, .func (.func 93) #[] #[]), (5, v31), (8, vx0), (9, .int .i64 (x0.length : Int)), (10, .int .i64 n6)] ⟨rfl, rfl, rfl, rfl, rfl, trivial⟩ fun σ => rg <| u rfl (x_bin rfl rfl rfl) <| mv (.int .i64 (i64 (n6 + 1))) rfl ⟨q7, Nat.le_refl _, l30, (i64 (n6 + 1)), v31, J34, H, (Nat.le_of_succ_le hq16), ⟨rfl, rfl, rfl, rfl, rfl, trivial⟩, hL8, (S.sel 2 [1] rfl), h33⟩
  rw [if_neg cc17] at H
  refine cF rfl (deF cc17) <| ex ⟨l3, v4, J2, (si H), ⟨rfl, trivial⟩, hL8, S, h5⟩
 rintro σ w ⟨l13, v14, J12, ho, hσ, hL8, S, h15⟩
 subst ho
 have H := HO10
 have hI := hI.trans hL8
 rw [hσ.eq]
 refine sr <| mv v14 rfl <| mv v14 rfl <| rt ?_
 obtain rfl := si H
 exact ⟨_, ⟨_, rfl, rfl⟩, ⟨v14, J12, hI, rfl, h15, S⟩⟩
def aspath_Flat.f (k : Nat) (x0 : (List T_api_Segment)) : Option (List Int) := ((aspath_gathered_92_w193.f k x0).bind fun y1 => (some y1))
abbrev aspath_Flat.C (k : Nat) : Prop := ∀ {x0 : (List T_api_Segment)} {vx0 : Value} {F : List It} {I : IMem} {w : World} {r : (List Int)}, Glob I → Own I w (F) → SlR R_api_Segment I vx0 x0 → aspath_Flat.f k x0 = some r →
    Calls Tryz.prog 51 #[vx0] w fun e w' => ∃ v, e = .returned v ∧ ∃ (vy_0 : Value) (J : IMem), I.le J ∧ v = vy_0 ∧ SlR (tInt' .u32) J vy_0 r ∧ Own J w' (.tv vy_0 23 1 :: F)
theorem aspath_Flat.ok (k : Nat) : aspath_Flat.C k := by
 intro x0 vx0 F I w r hG S hx0 H
 have hI := IMem.le.refl I
 rw [aspath_Flat.f] at H
 refine Calls.ofFW (args := [vx0]) Tryz.func51 rfl rfl <| sr <| mv ((.slice none 0 0)) rfl <| sr <| mv vx0 rfl ?_
 obtain ⟨y1, hy2, H⟩ := obx H
 refine g rfl (cl fb92 (@aspath_gathered_92_w193.ok k x0 _ _ _ _ _ hG S hx0 hy2) rfl ?_)
 rintro vy1_0 w ⟨vy1_0q, J3, hJ4, rfl, hy1_0, S⟩
 have hI := hI.trans hJ4
 refine mv vy1_0 rfl <| rt ?_
 obtain rfl := si H
 exact ⟨_, ⟨_, rfl, rfl⟩, ⟨vy1_0, J3, hI, rfl, hy1_0, S⟩⟩
mutual
def regex_Expr_add.f : Nat → (Option T_regex_Expr) → (List Bool) → Int → Int → Int → Option (List Bool)
  | 0, _, _, _, _, _ => none
  | k + 1, x0, x1, x2, x3, x4 => ((lat x1 x2).bind fun y1 => (if y1 = true then (some x1) else ((lat x1 x2).bind fun y10 => ((x0).bind fun y20 => ((lat y20.prog x2).bind fun y28 => (if y28.op = 1 then ((regex_Expr_add.f k x0 (x1.set x2.toNat true) y28.to_.1 x3 x4).bind fun y37 => ((regex_Expr_add.f k x0 y37 y28.to_.2 x3 x4).bind fun y41 => (some y41))) else (if y28.op = 2 then (if x3 = 0 then ((regex_Expr_add.f k x0 (x1.set x2.toNat true) (i64 (x2 + 1)) x3 x4).bind fun y47 => (some y47)) else (some (x1.set x2.toNat true))) else (if y28.op = 3 then (if x3 = x4 then ((regex_Expr_add.f k x0 (x1.set x2.toNat true) (i64 (x2 + 1)) x3 x4).bind fun y53 => (some y53)) else (some (x1.set x2.toNat true))) else (some (x1.set x2.toNat true))))))))))
end
abbrev regex_Expr_add.C (k : Nat) : Prop := ∀ {x0 : (Option T_regex_Expr)} {x1 : (List Bool)} {x2 : Int} {x3 : Int} {x4 : Int} {vx0 : Value} {vx1 : Value} {cx1 : List Value} {F : List It} {I : IMem} {w : World} {r : (List Bool)}, Glob I → Own I w (.av vx1 4 1 cx1 :: F) → PtR R_regex_Expr I vx0 x0 → Flat tBool I cx1 x1 → regex_Expr_add.f k x0 x1 x2 x3 x4 = some r →
    Calls Tryz.prog 90 #[vx0, vx1, .int .i64 x2, .int .i64 x3, .int .i64 x4] w fun e w' => ∃ v, e = .returned v ∧ ∃ (cy_0 : List Value) (J : IMem), I.le J ∧ v = .tuple #[] ∧ Flat tBool J cy_0 r ∧ Own J w' (.av vx1 4 1 cy_0 :: F)
theorem regex_Expr_add.step (k : Nat) (ih_regex_Expr_add : ∀ m, m ≤ k → regex_Expr_add.C m) : regex_Expr_add.C (k + 1) := by
 intro x0 x1 x2 x3 x4 vx0 vx1 cx1 F I w r hG S hx0 hx1 H
 have hI := IMem.le.refl I
 rw [regex_Expr_add.f] at H
 refine Calls.ofFW (args := [vx0, vx1, .int .i64 x2, .int .i64 x3, .int .i64 x4]) Tryz.func90 rfl rfl <| sq <| sr <| mv vx1 rfl <| mv (.int .i64 x2) rfl ?_
 obtain ⟨y1, h2, H⟩ := obx H
 refine g rfl (o_iaV (r := tBool) tsl140 rfl rfl S 0 rfl hx1 rfl h2 fun b3 cs4 cc5 hv6 hr7 hc8 => ?_)
 obtain rfl := hr7
 refine u rfl (x_ld tsc4 rfl (S.loadV 0 rfl hv6 (hc8 0 _ rfl))) ?_
 by_cases cc9 : y1 = true
 ·rw [if_pos cc9] at H
  refine cT rfl cc9 <| rt ?_
  obtain rfl := si H
  exact ⟨_, rfl, ⟨cx1, I, hI, rfl, hx1, S⟩⟩
 rw [if_neg cc9] at H
 refine cF rfl (vaF cc9) <| sk <| sr <| mv vx1 rfl <| mv (.int .i64 x2) rfl ?_
 obtain ⟨y10, h11, H⟩ := obx H
 refine g rfl (o_iaV (r := tBool) tsl140 rfl rfl S 0 rfl hx1 rfl h11 fun b12 cs13 cc14 hv15 hr16 hc17 => ?_)
 obtain rfl := hr16
 refine g rfl (o_stV (r := tBool) (f := 0) (y' := true) tone4 rfl S 0 rfl hv15 hx1 h11 rfl hc17 rfl rfl rfl rfl rfl fun w a18 S h19 => sq (FW.anew [(0, vx0), (1, vx1), (2, .int .i64 x2), (3, .int .i64 x3), (4, .int .i64 x4)] ⟨rfl, rfl, rfl, rfl, rfl, trivial⟩ fun σ => rg (mv vx0 rfl ?_)))
 obtain ⟨y20, hy21, H⟩ := obx H
 obtain ⟨b22, o23, cs24, hv25, hr26, hc27⟩ := hx0.some hy21
 obtain ⟨y20v1, y20v2, y20v4, rfl, y20h1, y20h2, y20h4⟩ := hr26
 refine u rfl (x_nk hv25) <| u rfl (x_fa tf128_1 rfl) <| u rfl (x_ld tsc126 rfl (S.cell _ _ _ (hc27 4 _ rfl))) <| mv (.int .i64 x2) rfl ?_
 obtain ⟨y28, h29, H⟩ := obx H
 refine g rfl (o_ia (r := R_regex_step) tsl126 rfl rfl y20h4 rfl h29 fun b30 o31 cs32 hr33 hc34 => ?_)
 obtain ⟨y28v1, rfl, y28h1⟩ := hr33
 refine u rfl (x_ldA tag132 rfl (S.loadI hc34) rfl) <| g rfl (o_all tz132 S fun b35 w S => g rfl (o_stA tag132 S 0 rfl rfl rfl rfl (c1 rfl (c1 y28h1.one (c1 rfl (c1 rfl (c1 rfl (c1 rfl c0)))))) rfl fun w S => sq (FW.anew [(0, vx0), (1, vx1), (2, .int .i64 x2), (3, .int .i64 x3), (4, .int .i64 x4), (10, pt b35)] ⟨rfl, rfl, rfl, rfl, rfl, rfl, trivial⟩ fun σ => rg (u rfl (x_fa tf132_0 rfl) (u rfl (x_ld tsc3 rfl (S.load 0 rfl 0 rfl)) (bk (sq (rg (u rfl (x_bin rfl rfl rfl) (mv (.bool (y28.op == 1)) rfl ?_))))))))))
 by_cases cc36 : y28.op = 1
 ·rw [if_pos cc36] at H
  refine cT rfl (eqT cc36) <| sr <| mv vx0 rfl <| mv vx1 rfl <| u rfl (x_fa tf132_4 rfl) <| u rfl (x_iaA tar130 rfl rfl (by decide) (by decide)) <| u rfl (x_ld tsc3 rfl (S.load 0 rfl 4 rfl)) <| mv (.int .i64 x3) rfl <| mv (.int .i64 x4) rfl ?_
  obtain ⟨y37, hy38, H⟩ := obx H
  refine g rfl (cl fb90 (@ih_regex_Expr_add k (by omega) x0 (x1.set x2.toNat true) y28.to_.1 x3 x4 _ _ _ _ _ _ _ hG (S.sel 2 [1, 0] rfl) hx0 h19 hy38) rfl ?_)
  rintro _ w ⟨cy37_0, J39, hJ40, rfl, hy37_0, S⟩
  have hx0 := hx0.mono hJ40
  have hI := hI.trans hJ40
  have hG := hG.mono hJ40
  refine FW.anew [(0, vx0), (1, vx1), (3, .int .i64 x3), (4, .int .i64 x4), (10, pt b35)] ⟨rfl, rfl, rfl, rfl, rfl, trivial⟩ fun σ => rg <| mv vx0 rfl <| mv vx1 rfl <| u rfl (x_fa tf132_4 rfl) <| u rfl (x_iaA tar130 rfl rfl (by decide) (by decide)) <| u rfl (x_ld tsc3 rfl (S.load 1 rfl 5 rfl)) <| mv (.int .i64 x3) rfl <| mv (.int .i64 x4) rfl ?_
  obtain ⟨y41, hy42, H⟩ := obx H
  refine g rfl (cl fb90 (@ih_regex_Expr_add k (by omega) x0 y37 y28.to_.2 x3 x4 _ _ _ _ _ _ _ hG S hx0 hy37_0 hy42) rfl ?_)
  rintro _ w ⟨cy41_0, J43, hJ44, rfl, hy41_0, S⟩
  have hI := hI.trans hJ44
  obtain rfl := si H
  exact ⟨_, rfl, ⟨cy41_0, J43, hI, rfl, hy41_0, (S.sel 2 [0] rfl)⟩⟩
 rw [if_neg cc36] at H
 refine cF rfl (eqF cc36) <| sr <| u rfl (x_bin rfl rfl rfl) <| mv (.bool (y28.op == 2)) rfl ?_
 by_cases cc45 : y28.op = 2
 ·rw [if_pos cc45] at H
  refine cT rfl (eqT cc45) <| sr <| mv (.int .i64 x3) rfl <| u rfl (x_bin rfl rfl rfl) ?_
  by_cases cc46 : x3 = 0
  ·rw [if_pos cc46] at H
   refine cT rfl (eqT cc46) <| FW.anew [(0, vx0), (1, vx1), (2, .int .i64 x2), (3, .int .i64 x3), (4, .int .i64 x4)] ⟨rfl, rfl, rfl, rfl, rfl, trivial⟩ fun σ => rg <| mv vx0 rfl <| mv vx1 rfl <| mv (.int .i64 x2) rfl <| u rfl (x_bin rfl rfl rfl) <| mv (.int .i64 x3) rfl <| mv (.int .i64 x4) rfl ?_
   obtain ⟨y47, hy48, H⟩ := obx H
   refine g rfl (cl fb90 (@ih_regex_Expr_add k (by omega) x0 (x1.set x2.toNat true) (i64 (x2 + 1)) x3 x4 _ _ _ _ _ _ _ hG (S.sel 2 [1, 0] rfl) hx0 h19 hy48) rfl ?_)
   rintro _ w ⟨cy47_0, J49, hJ50, rfl, hy47_0, S⟩
   have hI := hI.trans hJ50
   obtain rfl := si H
   exact ⟨_, rfl, ⟨cy47_0, J49, hI, rfl, hy47_0, (S.sel 2 [0] rfl)⟩⟩
  rw [if_neg cc46] at H
  refine cF rfl (eqF cc46) <| sk ?_
  obtain rfl := si H
  exact ⟨_, rfl, ⟨a18, I, hI, rfl, h19, (S.sel 2 [1] rfl)⟩⟩
 rw [if_neg cc45] at H
 refine cF rfl (eqF cc45) <| sr <| u rfl (x_bin rfl rfl rfl) <| mv (.bool (y28.op == 3)) rfl ?_
 by_cases cc51 : y28.op = 3
 ·rw [if_pos cc51] at H
  refine cT rfl (eqT cc51) <| sq <| FW.anew [(0, vx0), (1, vx1), (2, .int .i64 x2), (3, .int .i64 x3), (4, .int .i64 x4)] ⟨rfl, rfl, rfl, rfl, rfl, trivial⟩ fun σ => rg <| mv (.int .i64 x3) rfl <| mv (.int .i64 x4) rfl <| u rfl (x_bin rfl rfl rfl) ?_
  by_cases cc52 : x3 = x4
  ·rw [if_pos cc52] at H
   refine cT rfl (eqT cc52) <| rg <| mv vx0 rfl <| mv vx1 rfl <| mv (.int .i64 x2) rfl <| u rfl (x_bin rfl rfl rfl) <| mv (.int .i64 x3) rfl <| mv (.int .i64 x4) rfl ?_
   obtain ⟨y53, hy54, H⟩ := obx H
   refine g rfl (cl fb90 (@ih_regex_Expr_add k (by omega) x0 (x1.set x2.toNat true) (i64 (x2 + 1)) x3 x4 _ _ _ _ _ _ _ hG (S.sel 2 [1, 0] rfl) hx0 h19 hy54) rfl ?_)
   rintro _ w ⟨cy53_0, J55, hJ56, rfl, hy53_0, S⟩
   have hI := hI.trans hJ56
   obtain rfl := si H
   exact ⟨_, rfl, ⟨cy53_0, J55, hI, rfl, hy53_0, (S.sel 2 [0] rfl)⟩⟩
  rw [if_neg cc52] at H
  refine cF rfl (eqF cc52) <| sk ?_
  obtain rfl := si H
  exact ⟨_, rfl, ⟨a18, I, hI, rfl, h19, (S.sel 2 [1] rfl)⟩⟩
 rw [if_neg cc51] at H
 refine cF rfl (eqF cc51) <| sk ?_
 obtain rfl := si H
 exact ⟨_, rfl, ⟨a18, I, hI, rfl, h19, (S.sel 2 [1] rfl)⟩⟩
theorem regex_Expr_add.zero : regex_Expr_add.C 0 := by
  intro _ _ _ _ _ _ _ _ _ _ _ _ _ _ _ _ H; cases H
theorem regex_Expr_add.grp : ∀ k m, m ≤ k → regex_Expr_add.C m
  | 0, m, h => by
    obtain rfl : m = 0 := by omega
    exact regex_Expr_add.zero
  | k + 1, 0, _ => regex_Expr_add.zero
  | k + 1, m + 1, h => regex_Expr_add.step m (fun i hi => (regex_Expr_add.grp k i (by omega)))
theorem regex_Expr_add.ok (k : Nat) : regex_Expr_add.C k := (regex_Expr_add.grp k k (Nat.le_refl k))
def regex_step_takes.l0 : Nat → T_regex_step → Int → Int → Option (Sum Bool Unit)
  | 0, _, _, _ => none
  | k + 1, x0, x1, n4 => (if n4 < (x0.spans.length : Int) then ((lat x0.spans n4).bind fun y13 => (if x1 ≥ y13.from_ then (if x1 ≤ y13.to_ then (some (.inl (!x0.not))) else (regex_step_takes.l0 k x0 x1 (i64 (n4 + 1)))) else (regex_step_takes.l0 k x0 x1 (i64 (n4 + 1))))) else (some (.inr ())))
def regex_step_takes.f (k : Nat) (x0 : T_regex_step) (x1 : Int) : Option Bool := (if x0.all = true then (some true) else (((regex_step_takes.l0 k x0 x1 0) : Option (Sum Bool Unit)).bind fun o => match o with | .inl r => some r | .inr _ => (some x0.not)))
abbrev regex_step_takes.C (k : Nat) : Prop := ∀ {x0 : T_regex_step} {x1 : Int} {x0v1 : Value} {F : List It} {I : IMem} {w : World} {r : Bool}, Glob I → Own I w (F) → SlR R_regex_span I x0v1 x0.spans → regex_step_takes.f k x0 x1 = some r →
    Calls Tryz.prog 91 #[.agg #[.int .i64 x0.op, x0v1, .bool x0.all, .bool x0.not, .int .i64 x0.to_.1, .int .i64 x0.to_.2], .int .u32 x1] w fun e w' => ∃ v, e = .returned v ∧ v = .bool r ∧ Own I w' (F)
theorem regex_step_takes.ok (k : Nat) : regex_step_takes.C k := by
 intro x0 x1 x0v1 F I w r hG S x0h1 H
 have hI := IMem.le.refl I
 rw [regex_step_takes.f] at H
 refine Calls.ofFW (args := [.agg #[.int .i64 x0.op, x0v1, .bool x0.all, .bool x0.not, .int .i64 x0.to_.1, .int .i64 x0.to_.2], .int .u32 x1]) Tryz.func91 rfl rfl <| sr <| g rfl (o_boxA rfl S fun b1 w S => mv (.bool false) rfl (sq (sq (rg (u rfl (x_fa tf132_2 rfl) (u rfl (x_ld tsc4 rfl (S.load 0 rfl 2 rfl)) ?_))))))
 by_cases cc2 : x0.all = true
 ·rw [if_pos cc2] at H
  refine cT rfl cc2 <| sr <| mv (.bool true) rfl <| rt ?_
  obtain rfl := si H
  exact ⟨_, ⟨_, rfl, rfl⟩, ⟨rfl, ((S.sel 1 [] rfl).weaken hI)⟩⟩
 rw [if_neg cc2] at H
 refine cF rfl (vaF cc2) <| sk <| sq <| sr <| u rfl (x_fa tf132_1 rfl) <| u rfl (x_ld tsc119 rfl (S.load 0 rfl 1 rfl)) <| u rfl (x_lenD (r := R_regex_span) tsl119 x0h1) <| mv (.int .i64 0) rfl <| bk ?_
 obtain ⟨o7, hl9, HO8⟩ := obx H
 refine FW.cutX 0 (fun σ w => ∃ (J10 : IMem), (.inr ()) = o7 ∧ Has σ [(2, pt b1)] ∧ I.le J10 ∧ Own J10 w (.bk b1 132 [.int .i64 x0.op, x0v1, .bool x0.all, .bool x0.not, .int .i64 x0.to_.1, .int .i64 x0.to_.2] :: F)) ?_ ?_
 ·refine FW.loop k (FL.ind (fun q σ w => ∃ (n4 : Int) (J3 : IMem), regex_step_takes.l0 q x0 x1 n4 = some o7 ∧ q ≤ k ∧ Has σ [(1, .int .u32 x1), (2, pt b1), (10, x0v1), (11, .int .i64 (x0.spans.length : Int)), (12, .int .i64 n4)] ∧ I.le J3 ∧ Own J3 w (.bk b1 132 [.int .i64 x0.op, x0v1, .bool x0.all, .bool x0.not, .int .i64 x0.to_.1, .int .i64 x0.to_.2] :: F)) ?_ ?_ k k _ _ (Nat.le_refl _) ⟨0, I, hl9, Nat.le_refl _, ⟨rfl, rfl, rfl, rfl, rfl, trivial⟩, (IMem.le.refl _), S⟩)
  ·rintro σ w ⟨n4, J3, H, _⟩; cases H
  rintro q5 σ w ⟨n4, J3, H, hq11, hσ, hL6, S⟩
  have x0h1 := x0h1.mono hL6
  have hI := hI.trans hL6
  rw [hσ.eq]
  rw [regex_step_takes.l0] at H
  refine sr <| u rfl (x_bin rfl rfl rfl) <| sq ?_
  by_cases cc12 : n4 < (x0.spans.length : Int)
  ·rw [if_pos cc12] at H
   refine cT rfl (deT cc12) <| sk <| sq <| bk <| sq <| rg ?_
   obtain ⟨y13, h14, H⟩ := obx H
   refine g rfl (o_ia (r := R_regex_span) tsl119 rfl rfl x0h1 rfl h14 fun b15 o16 cs17 hr18 hc19 => ?_)
   obtain rfl := hr18
   refine u rfl (x_ldA tag167 rfl (S.loadI hc19) rfl) <| g rfl (o_all tz167 S fun b20 w S => g rfl (o_stA tag167 S 0 rfl rfl rfl rfl (c1 rfl (c1 rfl c0)) rfl fun w S => sq (rg (mv (.int .u32 x1) rfl (u rfl (x_fa tf167_0 rfl) (u rfl (x_ld tsc23 rfl (S.load 0 rfl 0 rfl)) (u rfl (x_bin rfl rfl rfl) (mv (.bool (decide (x1 ≥ y13.from_))) rfl ?_))))))))
   by_cases cc21 : x1 ≥ y13.from_
   ·rw [if_pos cc21] at H
    refine gu rfl rfl rfl (deT cc21) (x_movV (v := .int .u32 x1) rfl) <| gu rfl rfl rfl (deT cc21) (x_fa tf167_1 rfl) <| gu rfl rfl rfl (deT cc21) (x_ld tsc23 rfl (S.load 0 rfl 1 rfl)) <| gu rfl rfl rfl (deT cc21) (x_bin rfl rfl rfl) <| u rfl (x_pickTV (v := .bool (decide (x1 ≤ y13.to_))) rfl (deT cc21) rfl) ?_
    by_cases cc22 : x1 ≤ y13.to_
    ·rw [if_pos cc22] at H
     refine cT rfl (deT cc22) <| sq <| FW.anew [(2, pt b1)] ⟨rfl, trivial⟩ fun σ => rg <| u rfl (x_fa tf132_3 rfl) <| u rfl (x_ld tsc4 rfl (S.load 1 rfl 3 rfl)) <| u rfl (x_not' rfl) <| mv (.bool (!x0.not)) rfl <| rt ?_
     obtain rfl := si H
     obtain rfl := si HO8
     exact ⟨_, ⟨_, rfl, rfl⟩, ⟨rfl, ((S.sel 2 [] rfl).weaken hI)⟩⟩
    rw [if_neg cc22] at H
    refine cF rfl (deF cc22) <| sk <| FW.anew [(1, .int .u32 x1), (2, pt b1), (10, x0v1), (11, .int .i64 (x0.spans.length : Int)), (12, .int .i64 n4)] ⟨rfl, rfl, rfl, rfl, rfl, trivial⟩ fun σ => rg <| u rfl (x_bin rfl rfl rfl) <| mv (.int .i64 (i64 (n4 + 1))) rfl ⟨q5, Nat.le_refl _, (i64 (n4 + 1)), J3, H, (Nat.le_of_succ_le hq11), ⟨rfl, rfl, rfl, rfl, rfl, trivial⟩, hL6, (S.sel 2 [1] rfl)⟩
   rw [if_neg cc21] at H
   refine gn rfl rfl rfl (deF cc21) <| gn rfl rfl rfl (deF cc21) <| gn rfl rfl rfl (deF cc21) <| gn rfl rfl rfl (deF cc21) <| u rfl (x_pickFV (v := .bool false) rfl (deF cc21) rfl) <| cF rfl rfl <| sk <| FW.anew [(1, .int .u32 x1), (2, pt b1), (10, x0v1), (11, .int .i64 (x0.spans.length : Int)), (12, .int .i64 n4)] ⟨rfl, rfl, rfl, rfl, rfl, trivial⟩ fun σ => rg <| u rfl (x_bin rfl rfl rfl) <| mv (.int .i64 (i64 (n4 + 1))) rfl ⟨q5, Nat.le_refl _, (i64 (n4 + 1)), J3, H, (Nat.le_of_succ_le hq11), ⟨rfl, rfl, rfl, rfl, rfl, trivial⟩, hL6, (S.sel 2 [1] rfl)⟩
  rw [if_neg cc12] at H
  refine cF rfl (deF cc12) <| ex ⟨J3, (si H), ⟨rfl, trivial⟩, hL6, S⟩
 rintro σ w ⟨J10, ho, hσ, hL6, S⟩
 subst ho
 have H := HO8
 try dsimp only at H
 have hI := hI.trans hL6
 rw [hσ.eq]
 refine sr <| u rfl (x_fa tf132_3 rfl) <| u rfl (x_ld tsc4 rfl (S.load 0 rfl 3 rfl)) <| mv (.bool x0.not) rfl <| rt ?_
 obtain rfl := si H
 exact ⟨_, ⟨_, rfl, rfl⟩, ⟨rfl, ((S.sel 1 [] rfl).weaken hI)⟩⟩
def regex_Expr_Match.l1 : Nat → (Option T_regex_Expr) → (List Int) → T_regex_Expr → Int → (List Bool) → (List Bool) → Int → Option (List Bool)
  | 0, _, _, _, _, _, _, _ => none
  | k + 1, x0, x1, y2, n23, y30, l67, n72 => (if n72 < (y30.length : Int) then ((lat y30 n72).bind fun y86 => (if y86 = true then ((lat y2.prog n72).bind fun y96 => (if y96.op = 0 then ((lat y2.prog n72).bind fun y104 => ((lat x1 n23).bind fun y111 => ((regex_step_takes.f k y104 y111).bind fun y118 => (if y118 = true then ((regex_Expr_add.f k x0 l67 (i64 (n72 + 1)) (i64 (n23 + 1)) (x1.length : Int)).bind fun y121 => (regex_Expr_Match.l1 k x0 x1 y2 n23 y30 y121 (i64 (n72 + 1)))) else (regex_Expr_Match.l1 k x0 x1 y2 n23 y30 l67 (i64 (n72 + 1))))))) else (regex_Expr_Match.l1 k x0 x1 y2 n23 y30 l67 (i64 (n72 + 1))))) else (regex_Expr_Match.l1 k x0 x1 y2 n23 y30 l67 (i64 (n72 + 1))))) else (some l67))
def regex_Expr_Match.l0 : Nat → (Option T_regex_Expr) → (List Int) → T_regex_Expr → (List Bool) → Int → Option (Sum Bool Unit)
  | 0, _, _, _, _, _ => none
  | k + 1, x0, x1, y2, l18, n23 => ((regex_Expr_add.f k x0 l18 0 n23 (x1.length : Int)).bind fun y30 => ((lat y30 (i64 ((y2.prog.length : Int) - 1))).bind fun y34 => (if y34 = true then ((lat y30 (i64 ((y2.prog.length : Int) - 1))).bind fun y43 => (some (.inl y43))) else (if n23 = (x1.length : Int) then ((lat y30 (i64 ((y2.prog.length : Int) - 1))).bind fun y52 => (some (.inl y52))) else ((made 1 false (y2.prog.length : Int)).bind fun l60 => ((regex_Expr_Match.l1 k x0 x1 y2 n23 y30 l60 0).bind fun l79 => (regex_Expr_Match.l0 k x0 x1 y2 l79 (i64 (n23 + 1)))))))))
def regex_Expr_Match.f (k : Nat) (x0 : (Option T_regex_Expr)) (x1 : (List Int)) : Option Bool := (if x0.isNone = true then (some false) else ((x0).bind fun y2 => (if (y2.prog.length : Int) = 0 then (some false) else ((made 1 false (y2.prog.length : Int)).bind fun l11 => ((regex_Expr_Match.l0 k x0 x1 y2 l11 0).bind fun o => match o with | .inl r => some r | .inr _ => none)))))
abbrev regex_Expr_Match.C (k : Nat) : Prop := ∀ {x0 : (Option T_regex_Expr)} {x1 : (List Int)} {vx0 : Value} {vx1 : Value} {F : List It} {I : IMem} {w : World} {r : Bool}, Glob I → Own I w (F) → PtR R_regex_Expr I vx0 x0 → SlR (tInt' .u32) I vx1 x1 → regex_Expr_Match.f k x0 x1 = some r →
    Calls Tryz.prog 50 #[vx0, vx1] w fun e w' => ∃ v, e = .returned v ∧ v = .bool r ∧ Own I w' (F)
theorem regex_Expr_Match.ok (k : Nat) : regex_Expr_Match.C k := by
 intro x0 x1 vx0 vx1 F I w r hG S hx0 hx1 H
 have hI := IMem.le.refl I
 rw [regex_Expr_Match.f] at H
 refine Calls.ofFW (args := [vx0, vx1]) Tryz.func50 rfl rfl <| sr <| mv (.bool false) rfl <| sq <| sr <| mv vx0 rfl <| u rfl (x_onil (r := R_regex_Expr) tptr75 hx0 rfl) <| mv (.bool x0.isNone) rfl ?_
 by_cases cc1 : x0.isNone = true
 ·rw [if_pos cc1] at H
  refine gn rfl rfl rfl cc1 <| gn rfl rfl rfl cc1 <| gn rfl rfl rfl cc1 <| gn rfl rfl rfl cc1 <| gn rfl rfl rfl cc1 <| gn rfl rfl rfl cc1 <| u rfl (x_pickTV (v := .bool true) rfl cc1 rfl) <| cT rfl rfl <| sr <| mv (.bool false) rfl <| rt ?_
  obtain rfl := si H
  exact ⟨_, ⟨_, rfl, rfl⟩, ⟨rfl, (S.weaken hI)⟩⟩
 rw [if_neg cc1] at H
 refine gu rfl rfl rfl (vaF cc1) (x_movV (v := vx0) rfl) ?_
 obtain ⟨y2, hy3, H⟩ := obx H
 obtain ⟨b4, o5, cs6, hv7, hr8, hc9⟩ := hx0.some hy3
 obtain ⟨y2v1, y2v2, y2v4, rfl, y2h1, y2h2, y2h4⟩ := hr8
 refine gu rfl rfl rfl (vaF cc1) (x_nk hv7) <| gu rfl rfl rfl (vaF cc1) (x_fa tf128_1 rfl) <| gu rfl rfl rfl (vaF cc1) (x_ld tsc126 rfl (S.cell _ _ _ (hc9 4 _ rfl))) <| gu rfl rfl rfl (vaF cc1) (x_lenD (r := R_regex_step) tsl126 y2h4) <| gu rfl rfl rfl (vaF cc1) (x_bin rfl rfl rfl) <| u rfl (x_pickFV (v := .bool ((y2.prog.length : Int) == 0)) rfl (vaF cc1) rfl) ?_
 by_cases cc10 : (y2.prog.length : Int) = 0
 ·rw [if_pos cc10] at H
  refine cT rfl (eqT cc10) <| sq <| FW.anew [] trivial fun σ => rg <| mv (.bool false) rfl <| rt ?_
  obtain rfl := si H
  exact ⟨_, ⟨_, rfl, rfl⟩, ⟨rfl, (S.weaken hI)⟩⟩
 rw [if_neg cc10] at H
 refine cF rfl (eqF cc10) <| sk <| sq <| FW.anew [(0, vx0), (1, vx1)] ⟨rfl, rfl, trivial⟩ fun σ => rg <| mv vx0 rfl <| u rfl (x_nk hv7) <| u rfl (x_fa tf128_1 rfl) <| u rfl (x_ld tsc126 rfl (S.cell _ _ _ (hc9 4 _ rfl))) <| u rfl (x_lenD (r := R_regex_step) tsl126 y2h4) <| u rfl (x_bin rfl rfl rfl) <| mv (.int .i64 (i64 ((y2.prog.length : Int) - 1))) rfl <| sq <| FW.anew [(0, vx0), (1, vx1), (5, .int .i64 (i64 ((y2.prog.length : Int) - 1)))] ⟨rfl, rfl, rfl, trivial⟩ fun σ => rg <| mv vx0 rfl <| u rfl (x_nk hv7) <| u rfl (x_fa tf128_1 rfl) <| u rfl (x_ld tsc126 rfl (S.cell _ _ _ (hc9 4 _ rfl))) <| u rfl (x_lenD (r := R_regex_step) tsl126 y2h4) ?_
 obtain ⟨l11, h13, H⟩ := obx H
 refine g rfl (o_mk (r := tBool) (x0 := false) tsl140 tz4 rfl rfl rfl rfl rfl h13 rfl S fun v12 w a15 S h14 => mv v12 rfl (sq (FW.anew [(0, vx0), (1, vx1), (5, .int .i64 (i64 ((y2.prog.length : Int) - 1))), (6, v12)] ⟨rfl, rfl, rfl, rfl, trivial⟩ fun σ => rg (mv (.int .i64 0) rfl (bk ?_)))))
 obtain ⟨o26, hl28, HO27⟩ := obx H
 refine FW.loop k (FL.ind (fun q σ w => ∃ (l18 : (List Bool)) (n23 : Int) (v19 : Value) (a20 : List Value) (J17 : IMem), regex_Expr_Match.l0 q x0 x1 y2 l18 n23 = some o26 ∧ q ≤ k ∧ Has σ [(0, vx0), (1, vx1), (5, .int .i64 (i64 ((y2.prog.length : Int) - 1))), (6, v19), (7, .int .i64 n23)] ∧ I.le J17 ∧ Own J17 w (.av v19 4 1 a20 :: F) ∧ Flat tBool J17 a20 l18) ?_ ?_ k k _ _ (Nat.le_refl _) ⟨l11, 0, v12, a15, I, hl28, Nat.le_refl _, ⟨rfl, rfl, rfl, rfl, rfl, trivial⟩, (IMem.le.refl _), S, h14⟩)
 ·rintro σ w ⟨l18, n23, v19, a20, J17, H, _⟩; cases H
 rintro q24 σ w ⟨l18, n23, v19, a20, J17, H, hq29, hσ, hL25, S, h21⟩
 have hx0 := hx0.mono hL25
 have hx1 := hx1.mono hL25
 have hc9 := hc9.mono hL25
 have y2h4 := y2h4.mono hL25
 have hI := hI.trans hL25
 have hG := hG.mono hL25
 rw [hσ.eq]
 rw [regex_Expr_Match.l0] at H
 refine sq <| bk <| sr <| mv vx0 rfl <| mv v19 rfl <| mv (.int .i64 n23) rfl <| mv vx1 rfl <| u rfl (x_lenD (r := (tInt' .u32)) tsl25 hx1) ?_
 obtain ⟨y30, hy31, H⟩ := obx H
 refine g rfl (cl fb90 (@regex_Expr_add.ok q24 x0 l18 0 n23 (x1.length : Int) _ _ _ _ _ _ _ hG S hx0 h21 hy31) rfl ?_)
 rintro _ w ⟨cy30_0, J32, hJ33, rfl, hy30_0, S⟩
 have hx0 := hx0.mono hJ33
 have hx1 := hx1.mono hJ33
 have hc9 := hc9.mono hJ33
 have y2h4 := y2h4.mono hJ33
 have hI := hI.trans hJ33
 have hL25 := hL25.trans hJ33
 have hG := hG.mono hJ33
 refine sq <| sr <| mv v19 rfl <| mv (.int .i64 (i64 ((y2.prog.length : Int) - 1))) rfl ?_
 obtain ⟨y34, h35, H⟩ := obx H
 refine g rfl (o_iaV (r := tBool) tsl140 rfl rfl S 0 rfl hy30_0 rfl h35 fun b36 cs37 cc38 hv39 hr40 hc41 => ?_)
 obtain rfl := hr40
 refine u rfl (x_ld tsc4 rfl (S.loadV 0 rfl hv39 (hc41 0 _ rfl))) <| mv (.bool y34) rfl ?_
 by_cases cc42 : y34 = true
 ·rw [if_pos cc42] at H
  refine gn rfl rfl rfl cc42 <| gn rfl rfl rfl cc42 <| gn rfl rfl rfl cc42 <| gn rfl rfl rfl cc42 <| u rfl (x_pickTV (v := .bool true) rfl cc42 rfl) <| cT rfl rfl <| sq <| FW.anew [(5, .int .i64 (i64 ((y2.prog.length : Int) - 1))), (6, v19)] ⟨rfl, rfl, trivial⟩ fun σ => rg <| mv v19 rfl <| mv (.int .i64 (i64 ((y2.prog.length : Int) - 1))) rfl ?_
  obtain ⟨y43, h44, H⟩ := obx H
  refine g rfl (o_iaV (r := tBool) tsl140 rfl rfl S 0 rfl hy30_0 rfl h44 fun b45 cs46 cc47 hv48 hr49 hc50 => ?_)
  obtain rfl := hr49
  refine u rfl (x_ld tsc4 rfl (S.loadV 0 rfl hv48 (hc50 0 _ rfl))) <| mv (.bool y43) rfl <| rt ?_
  obtain rfl := si H
  obtain rfl := si HO27
  exact ⟨_, ⟨_, rfl, rfl⟩, ⟨rfl, ((S.sel 1 [] rfl).weaken hI)⟩⟩
 rw [if_neg cc42] at H
 refine gu rfl rfl rfl (vaF cc42) (x_movV (v := .int .i64 n23) rfl) <| gu rfl rfl rfl (vaF cc42) (x_movV (v := vx1) rfl) <| gu rfl rfl rfl (vaF cc42) (x_lenD (r := (tInt' .u32)) tsl25 hx1) <| gu rfl rfl rfl (vaF cc42) (x_bin rfl rfl rfl) <| u rfl (x_pickFV (v := .bool (n23 == (x1.length : Int))) rfl (vaF cc42) rfl) ?_
 by_cases cc51 : n23 = (x1.length : Int)
 ·rw [if_pos cc51] at H
  refine cT rfl (eqT cc51) <| sq <| FW.anew [(5, .int .i64 (i64 ((y2.prog.length : Int) - 1))), (6, v19)] ⟨rfl, rfl, trivial⟩ fun σ => rg <| mv v19 rfl <| mv (.int .i64 (i64 ((y2.prog.length : Int) - 1))) rfl ?_
  obtain ⟨y52, h53, H⟩ := obx H
  refine g rfl (o_iaV (r := tBool) tsl140 rfl rfl S 0 rfl hy30_0 rfl h53 fun b54 cs55 cc56 hv57 hr58 hc59 => ?_)
  obtain rfl := hr58
  refine u rfl (x_ld tsc4 rfl (S.loadV 0 rfl hv57 (hc59 0 _ rfl))) <| mv (.bool y52) rfl <| rt ?_
  obtain rfl := si H
  obtain rfl := si HO27
  exact ⟨_, ⟨_, rfl, rfl⟩, ⟨rfl, ((S.sel 1 [] rfl).weaken hI)⟩⟩
 rw [if_neg cc51] at H
 refine cF rfl (eqF cc51) <| sk <| sq <| FW.anew [(0, vx0), (1, vx1), (5, .int .i64 (i64 ((y2.prog.length : Int) - 1))), (6, v19), (7, .int .i64 n23)] ⟨rfl, rfl, rfl, rfl, rfl, trivial⟩ fun σ => rg <| mv vx0 rfl <| u rfl (x_nk hv7) <| u rfl (x_fa tf128_1 rfl) <| u rfl (x_ld tsc126 rfl (S.cell _ _ _ (hc9 4 _ rfl))) <| u rfl (x_lenD (r := R_regex_step) tsl126 y2h4) ?_
 obtain ⟨l60, h62, H⟩ := obx H
 refine g rfl (o_mk (r := tBool) (x0 := false) tsl140 tz4 rfl rfl rfl rfl rfl h62 rfl S fun v61 w a64 S h63 => mv v61 rfl (sq (sq (FW.anew [(0, vx0), (1, vx1), (5, .int .i64 (i64 ((y2.prog.length : Int) - 1))), (6, v19), (7, .int .i64 n23), (8, v61)] ⟨rfl, rfl, rfl, rfl, rfl, rfl, trivial⟩ fun σ => rg (mv v19 rfl (u rfl (x_lenV (r := tBool) tsl140 rfl rfl S 1 rfl hy30_0) (mv (.int .i64 0) rfl (bk ?_))))))))
 obtain ⟨o75, hl77, HO76⟩ := obx H
 refine FW.cutX 2 (fun σ w => ∃ (l79 : (List Bool)) (v80 : Value) (a81 : List Value) (J78 : IMem), l79 = o75 ∧ Has σ [(0, vx0), (1, vx1), (5, .int .i64 (i64 ((y2.prog.length : Int) - 1))), (7, .int .i64 n23), (8, v80)] ∧ J32.le J78 ∧ Own J78 w (.av v80 4 1 a81 :: F) ∧ Flat tBool J78 a81 l79) ?_ ?_
 ·refine FW.loop q24 (FL.ind (fun q σ w => ∃ (l67 : (List Bool)) (n72 : Int) (v68 : Value) (a69 : List Value) (J66 : IMem), regex_Expr_Match.l1 q x0 x1 y2 n23 y30 l67 n72 = some o75 ∧ q ≤ q24 ∧ Has σ [(0, vx0), (1, vx1), (5, .int .i64 (i64 ((y2.prog.length : Int) - 1))), (7, .int .i64 n23), (8, v68), (61, v19), (62, .int .i64 (y30.length : Int)), (63, .int .i64 n72)] ∧ J32.le J66 ∧ Own J66 w (.av v19 4 1 cy30_0 :: .av v68 4 1 a69 :: F) ∧ Flat tBool J66 a69 l67) ?_ ?_ q24 q24 _ _ (Nat.le_refl _) ⟨l60, 0, v61, a64, J32, hl77, Nat.le_refl _, ⟨rfl, rfl, rfl, rfl, rfl, rfl, rfl, rfl, trivial⟩, (IMem.le.refl _), (S.sel 2 [1, 0] rfl), h63⟩)
  ·rintro σ w ⟨l67, n72, v68, a69, J66, H, _⟩; cases H
  rintro q73 σ w ⟨l67, n72, v68, a69, J66, H, hq84, hσ, hL74, S, h70⟩
  have hx0 := hx0.mono hL74
  have hx1 := hx1.mono hL74
  have hc9 := hc9.mono hL74
  have y2h4 := y2h4.mono hL74
  have hy30_0 := hy30_0.mono hL74
  have hG := hG.mono hL74
  rw [hσ.eq]
  rw [regex_Expr_Match.l1] at H
  refine sr <| u rfl (x_bin rfl rfl rfl) <| sq ?_
  by_cases cc85 : n72 < (y30.length : Int)
  ·rw [if_pos cc85] at H
   refine cT rfl (deT cc85) <| sk <| sq <| bk <| sr <| mv (.int .i64 n72) rfl ?_
   obtain ⟨y86, h87, H⟩ := obx H
   refine g rfl (o_iaV (r := tBool) tsl140 rfl rfl S 0 rfl hy30_0 rfl h87 fun b88 cs89 cc90 hv91 hr92 hc93 => ?_)
   obtain rfl := hr92
   refine u rfl (x_ld tsc4 rfl (S.loadV 0 rfl hv91 (hc93 0 _ rfl))) <| mv (.int .i64 n72) rfl <| mv (.bool y86) rfl <| sq ?_
   have S := S.drew
   refine FW.regionD mixed ?_
   have hO := Hold.nil (w := { w with drawn := w.drawn + 1 })
   refine am 0 (.bool y86) rfl (by kernel_rfl) hO <| am 1 (.bool y86) rfl (by kernel_rfl) hO ?_
   by_cases cc94 : y86 = true
   ·rw [if_pos cc94] at H
    refine AQ.pure 2 rfl (by kernel_rfl) (by kernel_rfl) (by kernel_rfl) (gT rfl rfl cc94) hO (fun w => x_movV (v := vx0) rfl) <| AQ.pure 3 rfl (by kernel_rfl) (by kernel_rfl) (by kernel_rfl) (gT rfl rfl cc94) hO (fun w => x_nk hv7) <| AQ.pure 4 rfl (by kernel_rfl) (by kernel_rfl) (by kernel_rfl) (gT rfl rfl cc94) hO (fun w => x_fa tf128_1 rfl) ?_
    have hR95 := IMem.le.refl J66
    refine AQ.take (S := Stab J66 []) 5 rfl (by kernel_rfl) (by kernel_rfl) (by kernel_rfl) (gT rfl rfl cc94) hO (Stab.nil S hR95) (fun w hS => x_ld tsc126 rfl (hS.cell _ _ _ (hc9 4 _ rfl))) fun hO => AQ.pure 6 rfl (by kernel_rfl) (by kernel_rfl) (by kernel_rfl) (gT rfl rfl cc94) hO (fun w => x_movV (v := .int .i64 n72) rfl) ?_
    obtain ⟨y96, h97, H⟩ := obx H
    refine AQ.pureE 7 rfl (by kernel_rfl) (by kernel_rfl) (by kernel_rfl) (gT rfl rfl cc94) hO (e_ia (r := R_regex_step) tsl126 rfl rfl y2h4 rfl h97) ?_
    rintro _ ⟨b98, o99, cs100, rfl, hr101, hc102⟩
    obtain ⟨y96v1, rfl, y96h1⟩ := hr101
    refine AQ.pure 8 rfl (by kernel_rfl) (by kernel_rfl) (by kernel_rfl) (gT rfl rfl cc94) hO (fun w => x_fa tf132_0 rfl) <| AQ.take (S := Stab J66 []) 9 rfl (by kernel_rfl) (by kernel_rfl) (by kernel_rfl) (gT rfl rfl cc94) hO (Stab.nil S hR95) (fun w hS => x_ld tsc3 rfl (hS.cell _ _ _ (hc102 0 _ rfl))) fun hO => AQ.pure 10 rfl (by kernel_rfl) (by kernel_rfl) (by kernel_rfl) (gT rfl rfl cc94) hO (fun w => x_bin rfl rfl rfl) <| ap 11 rfl (by kernel_rfl) hO (fun w => x_pickTV (v := .bool (y96.op == 0)) rfl cc94 rfl) <| am 12 (.bool (y96.op == 0)) rfl (by kernel_rfl) hO ?_
    by_cases cc103 : y96.op = 0
    ·rw [if_pos cc103] at H
     refine AQ.pure 13 rfl (by kernel_rfl) (by kernel_rfl) (by kernel_rfl) (gT rfl rfl (eqT cc103)) hO (fun w => x_movV (v := vx0) rfl) <| AQ.pure 14 rfl (by kernel_rfl) (by kernel_rfl) (by kernel_rfl) (gT rfl rfl (eqT cc103)) hO (fun w => x_nk hv7) <| AQ.pure 15 rfl (by kernel_rfl) (by kernel_rfl) (by kernel_rfl) (gT rfl rfl (eqT cc103)) hO (fun w => x_fa tf128_1 rfl) <| AQ.take (S := Stab J66 []) 16 rfl (by kernel_rfl) (by kernel_rfl) (by kernel_rfl) (gT rfl rfl (eqT cc103)) hO (Stab.nil S hR95) (fun w hS => x_ld tsc126 rfl (hS.cell _ _ _ (hc9 4 _ rfl))) fun hO => AQ.pure 17 rfl (by kernel_rfl) (by kernel_rfl) (by kernel_rfl) (gT rfl rfl (eqT cc103)) hO (fun w => x_movV (v := .int .i64 n72) rfl) ?_
     obtain ⟨y104, h105, H⟩ := obx H
     refine AQ.pureE 18 rfl (by kernel_rfl) (by kernel_rfl) (by kernel_rfl) (gT rfl rfl (eqT cc103)) hO (e_ia (r := R_regex_step) tsl126 rfl rfl y2h4 rfl h105) ?_
     rintro _ ⟨b106, o107, cs108, rfl, hr109, hc110⟩
     obtain ⟨y104v1, rfl, y104h1⟩ := hr109
     refine AQ.take (S := Stab J66 []) 19 rfl (by kernel_rfl) (by kernel_rfl) (by kernel_rfl) (gT rfl rfl (eqT cc103)) hO (Stab.nil S hR95) (fun w hS => x_ldA tag132 rfl (hS.loadI hc110) rfl) fun hO => AQ.pure 20 rfl (by kernel_rfl) (by kernel_rfl) (by kernel_rfl) (gT rfl rfl (eqT cc103)) hO (fun w => x_movV (v := vx1) rfl) <| AQ.pure 21 rfl (by kernel_rfl) (by kernel_rfl) (by kernel_rfl) (gT rfl rfl (eqT cc103)) hO (fun w => x_movV (v := .int .i64 n23) rfl) ?_
     obtain ⟨y111, h112, H⟩ := obx H
     refine AQ.pureE 22 rfl (by kernel_rfl) (by kernel_rfl) (by kernel_rfl) (gT rfl rfl (eqT cc103)) hO (e_ia (r := (tInt' .u32)) tsl25 rfl rfl hx1 rfl h112) ?_
     rintro _ ⟨b113, o114, cs115, rfl, hr116, hc117⟩
     obtain rfl := hr116
     refine AQ.take (S := Stab J66 []) 23 rfl (by kernel_rfl) (by kernel_rfl) (by kernel_rfl) (gT rfl rfl (eqT cc103)) hO (Stab.nil S hR95) (fun w hS => x_ld tsc23 rfl (hS.cell _ _ _ (hc117 0 _ rfl))) fun hO => AQ.one 24 [23, 19, 16, 9, 5] [false, false, true, true, true] (by kernel_rfl) rfl (by kernel_rfl) ?_
     obtain ⟨y118, hy119, H⟩ := obx H
     refine OK.gt rfl rfl rfl (eqT cc103) (cl fb91 (@regex_step_takes.ok q73 y104 y111 _ _ _ _ _ hG S y104h1 hy119) rfl ?_)
     rintro _ w ⟨rfl, S⟩
     refine andI (Hold.cons (Stab.nil S hR95) (Hold.cons (Stab.nil S hR95) (Hold.cons (Stab.nil S hR95) Hold.nil))) fun hO => ap 25 rfl (by kernel_rfl) hO (fun w => x_pickTV (v := .bool y118) rfl (eqT cc103) rfl) <| AQ.done (by kernel_rfl) ?_
     by_cases cc120 : y118 = true
     ·rw [if_pos cc120] at H
      refine cT rfl cc120 <| FW.anew [(0, vx0), (1, vx1), (5, .int .i64 (i64 ((y2.prog.length : Int) - 1))), (7, .int .i64 n23), (8, v68), (9, .int .i64 n72), (61, v19), (62, .int .i64 (y30.length : Int)), (63, .int .i64 n72)] ⟨rfl, rfl, rfl, rfl, rfl, rfl, rfl, rfl, rfl, trivial⟩ fun σ => rg <| mv vx0 rfl <| mv v68 rfl <| mv (.int .i64 n72) rfl <| u rfl (x_bin rfl rfl rfl) <| mv (.int .i64 n23) rfl <| u rfl (x_bin rfl rfl rfl) <| mv vx1 rfl <| u rfl (x_lenD (r := (tInt' .u32)) tsl25 hx1) ?_
      obtain ⟨y121, hy122, H⟩ := obx H
      refine g rfl (cl fb90 (@regex_Expr_add.ok q73 x0 l67 (i64 (n72 + 1)) (i64 (n23 + 1)) (x1.length : Int) _ _ _ _ _ _ _ hG (S.sel 2 [1, 0] rfl) hx0 h70 hy122) rfl ?_)
      rintro _ w ⟨cy121_0, J123, hJ124, rfl, hy121_0, S⟩
      have hL74 := hL74.trans hJ124
      refine FW.anew [(0, vx0), (1, vx1), (5, .int .i64 (i64 ((y2.prog.length : Int) - 1))), (7, .int .i64 n23), (8, v68), (61, v19), (62, .int .i64 (y30.length : Int)), (63, .int .i64 n72)] ⟨rfl, rfl, rfl, rfl, rfl, rfl, rfl, rfl, trivial⟩ fun σ => rg <| u rfl (x_bin rfl rfl rfl) <| mv (.int .i64 (i64 (n72 + 1))) rfl ⟨q73, Nat.le_refl _, y121, (i64 (n72 + 1)), v68, cy121_0, J123, H, (Nat.le_of_succ_le hq84), ⟨rfl, rfl, rfl, rfl, rfl, rfl, rfl, rfl, trivial⟩, hL74, (S.sel 2 [1, 0] rfl), hy121_0⟩
     rw [if_neg cc120] at H
     refine cF rfl (vaF cc120) <| sk <| FW.anew [(0, vx0), (1, vx1), (5, .int .i64 (i64 ((y2.prog.length : Int) - 1))), (7, .int .i64 n23), (8, v68), (61, v19), (62, .int .i64 (y30.length : Int)), (63, .int .i64 n72)] ⟨rfl, rfl, rfl, rfl, rfl, rfl, rfl, rfl, trivial⟩ fun σ => rg <| u rfl (x_bin rfl rfl rfl) <| mv (.int .i64 (i64 (n72 + 1))) rfl ⟨q73, Nat.le_refl _, l67, (i64 (n72 + 1)), v68, a69, J66, H, (Nat.le_of_succ_le hq84), ⟨rfl, rfl, rfl, rfl, rfl, rfl, rfl, rfl, trivial⟩, hL74, S, h70⟩
    rw [if_neg cc103] at H
    refine AQ.skip 13 rfl (by kernel_rfl) (by kernel_rfl) (by kernel_rfl) rfl rfl (eqF cc103) hO <| AQ.skip 14 rfl (by kernel_rfl) (by kernel_rfl) (by kernel_rfl) rfl rfl (eqF cc103) hO <| AQ.skip 15 rfl (by kernel_rfl) (by kernel_rfl) (by kernel_rfl) rfl rfl (eqF cc103) hO <| AQ.skip 16 rfl (by kernel_rfl) (by kernel_rfl) (by kernel_rfl) rfl rfl (eqF cc103) hO <| AQ.skip 17 rfl (by kernel_rfl) (by kernel_rfl) (by kernel_rfl) rfl rfl (eqF cc103) hO <| AQ.skip 18 rfl (by kernel_rfl) (by kernel_rfl) (by kernel_rfl) rfl rfl (eqF cc103) hO <| AQ.skip 19 rfl (by kernel_rfl) (by kernel_rfl) (by kernel_rfl) rfl rfl (eqF cc103) hO <| AQ.skip 20 rfl (by kernel_rfl) (by kernel_rfl) (by kernel_rfl) rfl rfl (eqF cc103) hO <| AQ.skip 21 rfl (by kernel_rfl) (by kernel_rfl) (by kernel_rfl) rfl rfl (eqF cc103) hO <| AQ.skip 22 rfl (by kernel_rfl) (by kernel_rfl) (by kernel_rfl) rfl rfl (eqF cc103) hO <| AQ.skip 23 rfl (by kernel_rfl) (by kernel_rfl) (by kernel_rfl) rfl rfl (eqF cc103) hO <| AQ.skip 24 rfl (by kernel_rfl) (by kernel_rfl) (by kernel_rfl) rfl rfl (eqF cc103) hO <| ap 25 rfl (by kernel_rfl) hO (fun w => x_pickFV (v := .bool false) rfl (eqF cc103) rfl) <| AQ.done (by kernel_rfl) <| cF rfl rfl <| sk <| FW.anew [(0, vx0), (1, vx1), (5, .int .i64 (i64 ((y2.prog.length : Int) - 1))), (7, .int .i64 n23), (8, v68), (61, v19), (62, .int .i64 (y30.length : Int)), (63, .int .i64 n72)] ⟨rfl, rfl, rfl, rfl, rfl, rfl, rfl, rfl, trivial⟩ fun σ => rg <| u rfl (x_bin rfl rfl rfl) <| mv (.int .i64 (i64 (n72 + 1))) rfl ⟨q73, Nat.le_refl _, l67, (i64 (n72 + 1)), v68, a69, J66, H, (Nat.le_of_succ_le hq84), ⟨rfl, rfl, rfl, rfl, rfl, rfl, rfl, rfl, trivial⟩, hL74, S, h70⟩
   rw [if_neg cc94] at H
   refine AQ.skip 2 rfl (by kernel_rfl) (by kernel_rfl) (by kernel_rfl) rfl rfl (vaF cc94) hO <| AQ.skip 3 rfl (by kernel_rfl) (by kernel_rfl) (by kernel_rfl) rfl rfl (vaF cc94) hO <| AQ.skip 4 rfl (by kernel_rfl) (by kernel_rfl) (by kernel_rfl) rfl rfl (vaF cc94) hO <| AQ.skip 5 rfl (by kernel_rfl) (by kernel_rfl) (by kernel_rfl) rfl rfl (vaF cc94) hO <| AQ.skip 6 rfl (by kernel_rfl) (by kernel_rfl) (by kernel_rfl) rfl rfl (vaF cc94) hO <| AQ.skip 7 rfl (by kernel_rfl) (by kernel_rfl) (by kernel_rfl) rfl rfl (vaF cc94) hO <| AQ.skip 8 rfl (by kernel_rfl) (by kernel_rfl) (by kernel_rfl) rfl rfl (vaF cc94) hO <| AQ.skip 9 rfl (by kernel_rfl) (by kernel_rfl) (by kernel_rfl) rfl rfl (vaF cc94) hO <| AQ.skip 10 rfl (by kernel_rfl) (by kernel_rfl) (by kernel_rfl) rfl rfl (vaF cc94) hO <| ap 11 rfl (by kernel_rfl) hO (fun w => x_pickFV (v := .bool false) rfl (vaF cc94) rfl) <| am 12 (.bool false) rfl (by kernel_rfl) hO <| AQ.skip 13 rfl (by kernel_rfl) (by kernel_rfl) (by kernel_rfl) rfl rfl rfl hO <| AQ.skip 14 rfl (by kernel_rfl) (by kernel_rfl) (by kernel_rfl) rfl rfl rfl hO <| AQ.skip 15 rfl (by kernel_rfl) (by kernel_rfl) (by kernel_rfl) rfl rfl rfl hO <| AQ.skip 16 rfl (by kernel_rfl) (by kernel_rfl) (by kernel_rfl) rfl rfl rfl hO <| AQ.skip 17 rfl (by kernel_rfl) (by kernel_rfl) (by kernel_rfl) rfl rfl rfl hO <| AQ.skip 18 rfl (by kernel_rfl) (by kernel_rfl) (by kernel_rfl) rfl rfl rfl hO <| AQ.skip 19 rfl (by kernel_rfl) (by kernel_rfl) (by kernel_rfl) rfl rfl rfl hO <| AQ.skip 20 rfl (by kernel_rfl) (by kernel_rfl) (by kernel_rfl) rfl rfl rfl hO <| AQ.skip 21 rfl (by kernel_rfl) (by kernel_rfl) (by kernel_rfl) rfl rfl rfl hO <| AQ.skip 22 rfl (by kernel_rfl) (by kernel_rfl) (by kernel_rfl) rfl rfl rfl hO <| AQ.skip 23 rfl (by kernel_rfl) (by kernel_rfl) (by kernel_rfl) rfl rfl rfl hO <| AQ.skip 24 rfl (by kernel_rfl) (by kernel_rfl) (by kernel_rfl) rfl rfl rfl hO <| ap 25 rfl (by kernel_rfl) hO (fun w => x_pickFV (v := .bool false) rfl rfl rfl) <| AQ.done (by kernel_rfl) <| cF rfl rfl <| sk <| FW.anew [(0, vx0), (1, vx1), (5, .int .i64 (i64 ((y2.prog.length : Int) - 1))), (7, .int .i64 n23), (8, v68), (61, v19), (62, .int .i64 (y30.length : Int)), (63, .int .i64 n72)] ⟨rfl, rfl, rfl, rfl, rfl, rfl, rfl, rfl, trivial⟩ fun σ => rg <| u rfl (x_bin rfl rfl rfl) <| mv (.int .i64 (i64 (n72 + 1))) rfl ⟨q73, Nat.le_refl _, l67, (i64 (n72 + 1)), v68, a69, J66, H, (Nat.le_of_succ_le hq84), ⟨rfl, rfl, rfl, rfl, rfl, rfl, rfl, rfl, trivial⟩, hL74, S, h70⟩
  rw [if_neg cc85] at H
  refine cF rfl (deF cc85) <| ex ⟨l67, v68, a69, J66, (si H), ⟨rfl, rfl, rfl, rfl, rfl, trivial⟩, hL74, (S.sel 2 [1] rfl), h70⟩
 rintro σ w ⟨l79, v80, a81, J78, ho, hσ, hL74, S, h82⟩
 subst ho
 have H := HO76
 have hL25 := hL25.trans hL74
 rw [hσ.eq]
 refine rg <| mv v80 rfl <| mv v80 rfl <| rg <| mv (.int .i64 n23) rfl <| u rfl (x_bin rfl rfl rfl) <| mv (.int .i64 (i64 (n23 + 1))) rfl ⟨q24, Nat.le_refl _, l79, (i64 (n23 + 1)), v80, a81, J78, H, (Nat.le_of_succ_le hq29), ⟨rfl, rfl, rfl, rfl, rfl, trivial⟩, hL25, S, h82⟩
def slices_Index_123.l0 : Nat → (List Int) → Int → Int → Option (Sum Int Unit)
  | 0, _, _, _ => none
  | k + 1, x0, x1, n2 => (if n2 < (x0.length : Int) then ((lat x0 n2).bind fun y11 => (if x1 = y11 then (some (.inl n2)) else (slices_Index_123.l0 k x0 x1 (i64 (n2 + 1))))) else (some (.inr ())))
def slices_Index_123.f (k : Nat) (x0 : (List Int)) (x1 : Int) : Option Int := (((slices_Index_123.l0 k x0 x1 0) : Option (Sum Int Unit)).bind fun o => match o with | .inl r => some r | .inr _ => (some (-1)))
abbrev slices_Index_123.C (k : Nat) : Prop := ∀ {x0 : (List Int)} {x1 : Int} {vx0 : Value} {F : List It} {I : IMem} {w : World} {r : Int}, Glob I → Own I w (F) → SlR (tInt' .u32) I vx0 x0 → slices_Index_123.f k x0 x1 = some r →
    Calls Tryz.prog 123 #[vx0, .int .u32 x1] w fun e w' => ∃ v, e = .returned v ∧ v = .int .i64 r ∧ Own I w' (F)
theorem slices_Index_123.ok (k : Nat) : slices_Index_123.C k := by
 intro x0 x1 vx0 F I w r hG S hx0 H
 have hI := IMem.le.refl I
 rw [slices_Index_123.f] at H
 refine Calls.ofFW (args := [vx0, .int .u32 x1]) Tryz.func123 rfl rfl <| sr <| mv (.int .i64 0) rfl <| sq <| sr <| mv vx0 rfl <| u rfl (x_lenD (r := (tInt' .u32)) tsl25 hx0) <| mv (.int .i64 0) rfl <| bk ?_
 obtain ⟨o5, hl7, HO6⟩ := obx H
 refine FW.cutX 0 (fun σ w => ∃ (J8 : IMem), (.inr ()) = o5 ∧ Has σ [] ∧ I.le J8 ∧ Own J8 w (F)) ?_ ?_
 ·refine FW.loop k (FL.ind (fun q σ w => ∃ (n2 : Int) (J1 : IMem), slices_Index_123.l0 q x0 x1 n2 = some o5 ∧ q ≤ k ∧ Has σ [(0, vx0), (1, .int .u32 x1), (7, .int .i64 (x0.length : Int)), (8, .int .i64 n2)] ∧ I.le J1 ∧ Own J1 w (F)) ?_ ?_ k k _ _ (Nat.le_refl _) ⟨0, I, hl7, Nat.le_refl _, ⟨rfl, rfl, rfl, rfl, trivial⟩, (IMem.le.refl _), S⟩)
  ·rintro σ w ⟨n2, J1, H, _⟩; cases H
  rintro q3 σ w ⟨n2, J1, H, hq9, hσ, hL4, S⟩
  have hx0 := hx0.mono hL4
  have hI := hI.trans hL4
  rw [hσ.eq]
  rw [slices_Index_123.l0] at H
  refine sr <| u rfl (x_bin rfl rfl rfl) <| sq ?_
  by_cases cc10 : n2 < (x0.length : Int)
  ·rw [if_pos cc10] at H
   refine cT rfl (deT cc10) <| sk <| sq <| bk <| sr <| mv (.int .i64 n2) rfl <| mv (.int .i64 n2) rfl <| sr <| mv (.int .u32 x1) rfl <| mv vx0 rfl <| mv (.int .i64 n2) rfl ?_
   obtain ⟨y11, h12, H⟩ := obx H
   refine g rfl (o_ia (r := (tInt' .u32)) tsl25 rfl rfl hx0 rfl h12 fun b13 o14 cs15 hr16 hc17 => ?_)
   obtain rfl := hr16
   refine u rfl (x_ld tsc23 rfl (S.cell _ _ _ (hc17 0 _ rfl))) <| u rfl (x_bin rfl rfl rfl) ?_
   by_cases cc18 : x1 = y11
   ·rw [if_pos cc18] at H
    refine cT rfl (eqT cc18) <| sq <| FW.anew [(5, .int .i64 n2)] ⟨rfl, trivial⟩ fun σ => rg <| mv (.int .i64 n2) rfl <| mv (.int .i64 n2) rfl <| rt ?_
    obtain rfl := si H
    obtain rfl := si HO6
    exact ⟨_, ⟨_, rfl, rfl⟩, ⟨rfl, (S.weaken hI)⟩⟩
   rw [if_neg cc18] at H
   refine cF rfl (eqF cc18) <| sk <| FW.anew [(0, vx0), (1, .int .u32 x1), (7, .int .i64 (x0.length : Int)), (8, .int .i64 n2)] ⟨rfl, rfl, rfl, rfl, trivial⟩ fun σ => rg <| u rfl (x_bin rfl rfl rfl) <| mv (.int .i64 (i64 (n2 + 1))) rfl ⟨q3, Nat.le_refl _, (i64 (n2 + 1)), J1, H, (Nat.le_of_succ_le hq9), ⟨rfl, rfl, rfl, rfl, trivial⟩, hL4, S⟩
  rw [if_neg cc10] at H
  refine cF rfl (deF cc10) <| ex ⟨J1, (si H), trivial, hL4, S⟩
 rintro σ w ⟨J8, ho, hσ, hL4, S⟩
 subst ho
 have H := HO6
 try dsimp only at H
 have hI := hI.trans hL4
 rw [hσ.eq]
 refine sr <| mv (.int .i64 (-1)) rfl <| rt ?_
 obtain rfl := si H
 exact ⟨_, ⟨_, rfl, rfl⟩, ⟨rfl, (S.weaken hI)⟩⟩
def slices_Contains_96.f (k : Nat) (x0 : (List Int)) (x1 : Int) : Option Bool := ((slices_Index_123.f k x0 x1).bind fun y1 => (some (decide (y1 ≥ 0))))
abbrev slices_Contains_96.C (k : Nat) : Prop := ∀ {x0 : (List Int)} {x1 : Int} {vx0 : Value} {F : List It} {I : IMem} {w : World} {r : Bool}, Glob I → Own I w (F) → SlR (tInt' .u32) I vx0 x0 → slices_Contains_96.f k x0 x1 = some r →
    Calls Tryz.prog 96 #[vx0, .int .u32 x1] w fun e w' => ∃ v, e = .returned v ∧ v = .bool r ∧ Own I w' (F)
theorem slices_Contains_96.ok (k : Nat) : slices_Contains_96.C k := by
 intro x0 x1 vx0 F I w r hG S hx0 H
 have hI := IMem.le.refl I
 rw [slices_Contains_96.f] at H
 refine Calls.ofFW (args := [vx0, .int .u32 x1]) Tryz.func96 rfl rfl <| sr <| mv (.bool false) rfl <| sr <| mv vx0 rfl <| mv (.int .u32 x1) rfl ?_
 obtain ⟨y1, hy2, H⟩ := obx H
 refine g rfl (cl fb123 (@slices_Index_123.ok k x0 x1 _ _ _ _ _ hG S hx0 hy2) rfl ?_)
 rintro _ w ⟨rfl, S⟩
 refine u rfl (x_bin rfl rfl rfl) <| mv (.bool (decide (y1 ≥ 0))) rfl <| rt ?_
 obtain rfl := si H
 exact ⟨_, ⟨_, rfl, rfl⟩, ⟨rfl, (S.weaken hI)⟩⟩
def filter_All_1.f (k : Nat) (x0 : Int) (x1 : (List Int)) : Option Bool := ((slices_Contains_96.f k x1 x0).bind fun y1 => (some (!y1)))
abbrev filter_All_1.C (k : Nat) : Prop := ∀ {x0 : Int} {x1 : (List Int)} {vx1 : Value} {bx1 : Nat} {F : List It} {I : IMem} {w : World} {r : Bool}, Glob I → Own I w (.bk bx1 25 [vx1] :: F) → SlR (tInt' .u32) I vx1 x1 → filter_All_1.f k x0 x1 = some r →
    Calls Tryz.prog 95 #[.int .u32 x0, pt bx1] w fun e w' => ∃ v, e = .returned v ∧ v = .bool r ∧ Own I w' (.bk bx1 25 [vx1] :: F)
theorem filter_All_1.ok (k : Nat) : filter_All_1.C k := by
 intro x0 x1 vx1 bx1 F I w r hG S hx1 H
 have hI := IMem.le.refl I
 rw [filter_All_1.f] at H
 refine Calls.ofFW (args := [.int .u32 x0, pt bx1]) Tryz.func95 rfl rfl <| sr <| mv (.bool false) rfl <| sr <| u rfl (x_ld tsc25 rfl (S.load 0 rfl 0 rfl)) <| mv (.int .u32 x0) rfl ?_
 obtain ⟨y1, hy2, H⟩ := obx H
 refine g rfl (cl fb96 (@slices_Contains_96.ok k x1 x0 _ _ _ _ _ hG S hx1 hy2) rfl ?_)
 rintro _ w ⟨rfl, S⟩
 refine u rfl (x_not' rfl) <| mv (.bool (!y1)) rfl <| rt ?_
 obtain rfl := si H
 exact ⟨_, ⟨_, rfl, rfl⟩, ⟨rfl, (S.weaken hI)⟩⟩
def slices_IndexFunc_122_w195.l0 : Nat → (List Int) → (List Int) → Int → Option (Sum Int Unit)
  | 0, _, _, _ => none
  | k + 1, x0, x1_0, n2 => (if n2 < (x0.length : Int) then ((lat x0 n2).bind fun y11 => ((filter_All_1.f k y11 x1_0).bind fun y18 => (if y18 = true then (some (.inl n2)) else (slices_IndexFunc_122_w195.l0 k x0 x1_0 (i64 (n2 + 1)))))) else (some (.inr ())))
def slices_IndexFunc_122_w195.f (k : Nat) (x0 : (List Int)) (x1_0 : (List Int)) : Option Int := (((slices_IndexFunc_122_w195.l0 k x0 x1_0 0) : Option (Sum Int Unit)).bind fun o => match o with | .inl r => some r | .inr _ => (some (-1)))
abbrev slices_IndexFunc_122_w195.C (k : Nat) : Prop := ∀ {x0 : (List Int)} {x1_0 : (List Int)} {vx0 : Value} {vx1_0 : Value} {bx1_0 : Nat} {F : List It} {I : IMem} {w : World} {r : Int}, Glob I → Own I w (.bk bx1_0 25 [vx1_0] :: F) → SlR (tInt' .u32) I vx0 x0 → SlR (tInt' .u32) I vx1_0 x1_0 → slices_IndexFunc_122_w195.f k x0 x1_0 = some r →
    Calls Tryz.prog 122 #[vx0, .func (.func 95) #[] #[pt bx1_0]] w fun e w' => ∃ v, e = .returned v ∧ v = .int .i64 r ∧ Own I w' (.bk bx1_0 25 [vx1_0] :: F)
theorem slices_IndexFunc_122_w195.ok (k : Nat) : slices_IndexFunc_122_w195.C k := by
 intro x0 x1_0 vx0 vx1_0 bx1_0 F I w r hG S hx0 hx1_0 H
 have hI := IMem.le.refl I
 rw [slices_IndexFunc_122_w195.f] at H
 refine Calls.ofFW (args := [vx0, .func (.func 95) #[] #[pt bx1_0]]) Tryz.func122 rfl rfl <| sr <| mv (.int .i64 0) rfl <| sq <| sr <| mv vx0 rfl <| u rfl (x_lenD (r := (tInt' .u32)) tsl25 hx0) <| mv (.int .i64 0) rfl <| bk ?_
 obtain ⟨o5, hl7, HO6⟩ := obx H
 refine FW.cutX 0 (fun σ w => ∃ (J8 : IMem), (.inr ()) = o5 ∧ Has σ [] ∧ I.le J8 ∧ Own J8 w (.bk bx1_0 25 [vx1_0] :: F)) ?_ ?_
 ·refine FW.loop k (FL.ind (fun q σ w => ∃ (n2 : Int) (J1 : IMem), slices_IndexFunc_122_w195.l0 q x0 x1_0 n2 = some o5 ∧ q ≤ k ∧ Has σ [(0, vx0), (1, .func (.func 95) #[] #[pt bx1_0]), (7, .int .i64 (x0.length : Int)), (8, .int .i64 n2)] ∧ I.le J1 ∧ Own J1 w (.bk bx1_0 25 [vx1_0] :: F)) ?_ ?_ k k _ _ (Nat.le_refl _) ⟨0, I, hl7, Nat.le_refl _, ⟨rfl, rfl, rfl, rfl, trivial⟩, (IMem.le.refl _), S⟩)
  ·rintro σ w ⟨n2, J1, H, _⟩; cases H
  rintro q3 σ w ⟨n2, J1, H, hq9, hσ, hL4, S⟩
  have hx0 := hx0.mono hL4
  have hx1_0 := hx1_0.mono hL4
  have hI := hI.trans hL4
  have hG := hG.mono hL4
  rw [hσ.eq]
  rw [slices_IndexFunc_122_w195.l0] at H
  refine sr <| u rfl (x_bin rfl rfl rfl) <| sq ?_
  by_cases cc10 : n2 < (x0.length : Int)
  ·rw [if_pos cc10] at H
   refine cT rfl (deT cc10) <| sk <| sq <| bk <| sr <| mv (.int .i64 n2) rfl <| mv (.int .i64 n2) rfl <| sr <| mv (.func (.func 95) #[] #[pt bx1_0]) rfl <| mv vx0 rfl <| mv (.int .i64 n2) rfl ?_
   obtain ⟨y11, h12, H⟩ := obx H
   refine g rfl (o_ia (r := (tInt' .u32)) tsl25 rfl rfl hx0 rfl h12 fun b13 o14 cs15 hr16 hc17 => ?_)
   obtain rfl := hr16
   refine u rfl (x_ld tsc23 rfl (S.cell _ _ _ (hc17 0 _ rfl))) ?_
   obtain ⟨y18, hy19, H⟩ := obx H
   refine g rfl (clv rfl fb95 (@filter_All_1.ok q3 y11 x1_0 _ _ _ _ _ _ hG S hx1_0 hy19) rfl ?_)
   rintro _ w ⟨rfl, S⟩
   by_cases cc20 : y18 = true
   ·rw [if_pos cc20] at H
    refine cT rfl cc20 <| sq <| FW.anew [(5, .int .i64 n2)] ⟨rfl, trivial⟩ fun σ => rg <| mv (.int .i64 n2) rfl <| mv (.int .i64 n2) rfl <| rt ?_
    obtain rfl := si H
    obtain rfl := si HO6
    exact ⟨_, ⟨_, rfl, rfl⟩, ⟨rfl, (S.weaken hI)⟩⟩
   rw [if_neg cc20] at H
   refine cF rfl (vaF cc20) <| sk <| FW.anew [(0, vx0), (1, .func (.func 95) #[] #[pt bx1_0]), (7, .int .i64 (x0.length : Int)), (8, .int .i64 n2)] ⟨rfl, rfl, rfl, rfl, trivial⟩ fun σ => rg <| u rfl (x_bin rfl rfl rfl) <| mv (.int .i64 (i64 (n2 + 1))) rfl ⟨q3, Nat.le_refl _, (i64 (n2 + 1)), J1, H, (Nat.le_of_succ_le hq9), ⟨rfl, rfl, rfl, rfl, trivial⟩, hL4, S⟩
  rw [if_neg cc10] at H
  refine cF rfl (deF cc10) <| ex ⟨J1, (si H), trivial, hL4, S⟩
 rintro σ w ⟨J8, ho, hσ, hL4, S⟩
 subst ho
 have H := HO6
 try dsimp only at H
 have hI := hI.trans hL4
 rw [hσ.eq]
 refine sr <| mv (.int .i64 (-1)) rfl <| rt ?_
 obtain rfl := si H
 exact ⟨_, ⟨_, rfl, rfl⟩, ⟨rfl, (S.weaken hI)⟩⟩
def slices_ContainsFunc_94_w195.f (k : Nat) (x0 : (List Int)) (x1_0 : (List Int)) : Option Bool := ((slices_IndexFunc_122_w195.f k x0 x1_0).bind fun y1 => (some (decide (y1 ≥ 0))))
abbrev slices_ContainsFunc_94_w195.C (k : Nat) : Prop := ∀ {x0 : (List Int)} {x1_0 : (List Int)} {vx0 : Value} {vx1_0 : Value} {bx1_0 : Nat} {F : List It} {I : IMem} {w : World} {r : Bool}, Glob I → Own I w (.bk bx1_0 25 [vx1_0] :: F) → SlR (tInt' .u32) I vx0 x0 → SlR (tInt' .u32) I vx1_0 x1_0 → slices_ContainsFunc_94_w195.f k x0 x1_0 = some r →
    Calls Tryz.prog 94 #[vx0, .func (.func 95) #[] #[pt bx1_0]] w fun e w' => ∃ v, e = .returned v ∧ v = .bool r ∧ Own I w' (.bk bx1_0 25 [vx1_0] :: F)
theorem slices_ContainsFunc_94_w195.ok (k : Nat) : slices_ContainsFunc_94_w195.C k := by
 intro x0 x1_0 vx0 vx1_0 bx1_0 F I w r hG S hx0 hx1_0 H
 have hI := IMem.le.refl I
 rw [slices_ContainsFunc_94_w195.f] at H
 refine Calls.ofFW (args := [vx0, .func (.func 95) #[] #[pt bx1_0]]) Tryz.func94 rfl rfl <| sr <| mv (.bool false) rfl <| sr <| mv vx0 rfl <| mv (.func (.func 95) #[] #[pt bx1_0]) rfl ?_
 obtain ⟨y1, hy2, H⟩ := obx H
 refine g rfl (cl fb122 (@slices_IndexFunc_122_w195.ok k x0 x1_0 _ _ _ _ _ _ _ hG S hx0 hx1_0 hy2) rfl ?_)
 rintro _ w ⟨rfl, S⟩
 refine u rfl (x_bin rfl rfl rfl) <| mv (.bool (decide (y1 ≥ 0))) rfl <| rt ?_
 obtain rfl := si H
 exact ⟨_, ⟨_, rfl, rfl⟩, ⟨rfl, (S.weaken hI)⟩⟩
def filter_All.f (k : Nat) (x0 : (List Int)) (x1 : (List Int)) : Option Bool := ((slices_ContainsFunc_94_w195.f k x1 x0).bind fun y2 => (some (!y2)))
abbrev filter_All.C (k : Nat) : Prop := ∀ {x0 : (List Int)} {x1 : (List Int)} {vx0 : Value} {vx1 : Value} {F : List It} {I : IMem} {w : World} {r : Bool}, Glob I → Own I w (F) → SlR (tInt' .u32) I vx0 x0 → SlR (tInt' .u32) I vx1 x1 → filter_All.f k x0 x1 = some r →
    Calls Tryz.prog 52 #[vx0, vx1] w fun e w' => ∃ v, e = .returned v ∧ v = .bool r ∧ Own I w' (F)
theorem filter_All.ok (k : Nat) : filter_All.C k := by
 intro x0 x1 vx0 vx1 F I w r hG S hx0 hx1 H
 have hI := IMem.le.refl I
 rw [filter_All.f] at H
 refine Calls.ofFW (args := [vx0, vx1]) Tryz.func52 rfl rfl <| sr <| g rfl (o_box hx0.one S fun b1 w S => mv (.bool false) rfl (sq (rg (mv vx1 rfl (u rfl (x_mkfL (l := [pt b1]) rfl) ?_)))))
 obtain ⟨y2, hy3, H⟩ := obx H
 refine g rfl (cl fb94 (@slices_ContainsFunc_94_w195.ok k x1 x0 _ _ _ _ _ _ _ hG S hx1 hx0 hy3) rfl ?_)
 rintro _ w ⟨rfl, S⟩
 refine u rfl (x_not' rfl) <| mv (.bool (!y2)) rfl <| rt ?_
 obtain rfl := si H
 exact ⟨_, ⟨_, rfl, rfl⟩, ⟨rfl, ((S.sel 1 [] rfl).weaken hI)⟩⟩
def aspath_Count.l0 : Nat → (List T_api_Segment) → Int → Int → Option Int
  | 0, _, _, _ => none
  | k + 1, x0, n2, n3 => (if n3 < (x0.length : Int) then ((lat x0 n3).bind fun y13 => (if y13.Kind = 1 then (aspath_Count.l0 k x0 (i64 (n2 + 1)) (i64 (n3 + 1))) else (aspath_Count.l0 k x0 (i64 (n2 + (y13.AS.length : Int))) (i64 (n3 + 1))))) else (some n2))
def aspath_Count.f (k : Nat) (x0 : (List T_api_Segment)) : Option Int := ((aspath_Count.l0 k x0 0 0).bind fun n10 => (some n10))
abbrev aspath_Count.C (k : Nat) : Prop := ∀ {x0 : (List T_api_Segment)} {vx0 : Value} {F : List It} {I : IMem} {w : World} {r : Int}, Glob I → Own I w (F) → SlR R_api_Segment I vx0 x0 → aspath_Count.f k x0 = some r →
    Calls Tryz.prog 53 #[vx0] w fun e w' => ∃ v, e = .returned v ∧ v = .int .i64 r ∧ Own I w' (F)
theorem aspath_Count.ok (k : Nat) : aspath_Count.C k := by
 intro x0 vx0 F I w r hG S hx0 H
 have hI := IMem.le.refl I
 rw [aspath_Count.f] at H
 refine Calls.ofFW (args := [vx0]) Tryz.func53 rfl rfl <| sr <| mv (.int .i64 0) rfl <| sr <| mv (.int .i64 0) rfl <| sq <| sr <| mv vx0 rfl <| u rfl (x_lenD (r := R_api_Segment) tsl37 hx0) <| mv (.int .i64 0) rfl <| bk ?_
 obtain ⟨o6, hl8, HO7⟩ := obx H
 refine FW.cutX 0 (fun σ w => ∃ (n10 : Int) (J9 : IMem), n10 = o6 ∧ Has σ [(3, .int .i64 n10)] ∧ I.le J9 ∧ Own J9 w (F)) ?_ ?_
 ·refine FW.loop k (FL.ind (fun q σ w => ∃ (n2 : Int) (n3 : Int) (J1 : IMem), aspath_Count.l0 q x0 n2 n3 = some o6 ∧ q ≤ k ∧ Has σ [(3, .int .i64 n2), (6, vx0), (7, .int .i64 (x0.length : Int)), (8, .int .i64 n3)] ∧ I.le J1 ∧ Own J1 w (F)) ?_ ?_ k k _ _ (Nat.le_refl _) ⟨0, 0, I, hl8, Nat.le_refl _, ⟨rfl, rfl, rfl, rfl, trivial⟩, (IMem.le.refl _), S⟩)
  ·rintro σ w ⟨n2, n3, J1, H, _⟩; cases H
  rintro q4 σ w ⟨n2, n3, J1, H, hq11, hσ, hL5, S⟩
  have hx0 := hx0.mono hL5
  rw [hσ.eq]
  rw [aspath_Count.l0] at H
  refine sr <| u rfl (x_bin rfl rfl rfl) <| sq ?_
  by_cases cc12 : n3 < (x0.length : Int)
  ·rw [if_pos cc12] at H
   refine cT rfl (deT cc12) <| sk <| sq <| bk <| sq <| rg ?_
   obtain ⟨y13, h14, H⟩ := obx H
   refine g rfl (o_ia (r := R_api_Segment) tsl37 rfl rfl hx0 rfl h14 fun b15 o16 cs17 hr18 hc19 => ?_)
   obtain ⟨y13v1, rfl, y13h1⟩ := hr18
   refine u rfl (x_ldA tag88 rfl (S.loadI hc19) rfl) <| g rfl (o_all tz88 S fun b20 w S => g rfl (o_stA tag88 S 0 rfl rfl rfl rfl (c1 rfl (c1 y13h1.one c0)) rfl fun w S => sq (rg (u rfl (x_fa tf88_0 rfl) (u rfl (x_ld tsc3 rfl (S.load 0 rfl 0 rfl)) (u rfl (x_bin rfl rfl rfl) ?_))))))
   by_cases cc21 : y13.Kind = 1
   ·rw [if_pos cc21] at H
    refine cT rfl (eqT cc21) <| FW.anew [(3, .int .i64 n2), (6, vx0), (7, .int .i64 (x0.length : Int)), (8, .int .i64 n3)] ⟨rfl, rfl, rfl, rfl, trivial⟩ fun σ => rg <| mv (.int .i64 n2) rfl <| u rfl (x_bin rfl rfl rfl) <| mv (.int .i64 (i64 (n2 + 1))) rfl <| rg <| u rfl (x_bin rfl rfl rfl) <| mv (.int .i64 (i64 (n3 + 1))) rfl ⟨q4, Nat.le_refl _, (i64 (n2 + 1)), (i64 (n3 + 1)), J1, H, (Nat.le_of_succ_le hq11), ⟨rfl, rfl, rfl, rfl, trivial⟩, hL5, (S.sel 1 [] rfl)⟩
   rw [if_neg cc21] at H
   refine cF rfl (eqF cc21) <| FW.anew [(3, .int .i64 n2), (5, pt b20), (6, vx0), (7, .int .i64 (x0.length : Int)), (8, .int .i64 n3)] ⟨rfl, rfl, rfl, rfl, rfl, trivial⟩ fun σ => rg <| mv (.int .i64 n2) rfl <| u rfl (x_fa tf88_1 rfl) <| u rfl (x_ld tsc25 rfl (S.load 0 rfl 1 rfl)) <| u rfl (x_lenD (r := (tInt' .u32)) tsl25 y13h1) <| u rfl (x_bin rfl rfl rfl) <| mv (.int .i64 (i64 (n2 + (y13.AS.length : Int)))) rfl <| rg <| u rfl (x_bin rfl rfl rfl) <| mv (.int .i64 (i64 (n3 + 1))) rfl ⟨q4, Nat.le_refl _, (i64 (n2 + (y13.AS.length : Int))), (i64 (n3 + 1)), J1, H, (Nat.le_of_succ_le hq11), ⟨rfl, rfl, rfl, rfl, trivial⟩, hL5, (S.sel 1 [] rfl)⟩
  rw [if_neg cc12] at H
  refine cF rfl (deF cc12) <| ex ⟨n2, J1, (si H), ⟨rfl, trivial⟩, hL5, S⟩
 rintro σ w ⟨n10, J9, ho, hσ, hL5, S⟩
 subst ho
 have H := HO7
 have hI := hI.trans hL5
 rw [hσ.eq]
 refine sr <| mv (.int .i64 n10) rfl <| mv (.int .i64 n10) rfl <| rt ?_
 obtain rfl := si H
 exact ⟨_, ⟨_, rfl, rfl⟩, ⟨rfl, (S.weaken hI)⟩⟩
def policy_Holds.f (k : Nat) (x0 : T_api_Cond) (x1 : T_api_Prefix) (x2 : T_api_Attrs) : Option Bool := (if x0.Kind = 0 then (some (!(true == x0.Not))) else (if x0.Kind = 1 then ((filter_Any.f k x0.Range x1).bind fun y6 => (some (!(y6 == x0.Not)))) else (if x0.Kind = 2 then ((regex_Parse.f k x0.Text).bind fun y9 => ((aspath_Flat.f k x2.Path).bind fun y13 => ((regex_Expr_Match.f k y9.1 y13).bind fun y17 => (some (!(y17 == x0.Not)))))) else (if x0.Kind = 3 then ((filter_All.f k x2.Comms x0.Comms).bind fun y20 => (some (!(y20 == x0.Not)))) else (if x0.Kind = 4 then ((aspath_Count.f k x2.Path).bind fun y24 => (some (!((decide (y24 > x0.Num)) == x0.Not)))) else (if x0.Kind = 5 then (some (!((x2.Next == x0.Addr) == x0.Not))) else (if x0.Kind = 6 then (some (!((x2.Origin == x0.Num) == x0.Not))) else (some (!(false == x0.Not))))))))))
abbrev policy_Holds.C (k : Nat) : Prop := ∀ {x0 : T_api_Cond} {x1 : T_api_Prefix} {x2 : T_api_Attrs} {x0v5 : Value} {x0v6 : Value} {x2v1 : Value} {x2v9 : Value} {x2v10 : Value} {F : List It} {I : IMem} {w : World} {r : Bool}, Glob I → Own I w (F) → SlR R_api_Range I x0v5 x0.Range → SlR (tInt' .u32) I x0v6 x0.Comms → SlR R_api_Segment I x2v1 x2.Path → SlR (tInt' .u32) I x2v9 x2.Comms → SlR R_api_Raw I x2v10 x2.Raws → policy_Holds.f k x0 x1 x2 = some r →
    Calls Tryz.prog 20 #[.agg #[.int .i64 x0.Kind, .bool x0.Not, .int .i64 x0.Num, .int .u32 x0.Addr, .string x0.Text, x0v5, x0v6], .agg #[.int .u32 x1.Addr, .int .i64 x1.Len], .agg #[.int .i64 x2.Origin, x2v1, .int .u32 x2.Next, .int .i64 x2.Med, .int .i64 x2.Pref, .bool x2.Atomic, .bool x2.HasAggr, .int .u32 x2.AggrAS, .int .u32 x2.AggrAddr, x2v9, x2v10]] w fun e w' => ∃ v, e = .returned v ∧ v = .bool r ∧ Own I w' (F)
theorem policy_Holds.ok (k : Nat) : policy_Holds.C k := by
 intro x0 x1 x2 x0v5 x0v6 x2v1 x2v9 x2v10 F I w r hG S x0h5 x0h6 x2h1 x2h9 x2h10 H
 have hI := IMem.le.refl I
 rw [policy_Holds.f] at H
 refine Calls.ofFW (args := [.agg #[.int .i64 x0.Kind, .bool x0.Not, .int .i64 x0.Num, .int .u32 x0.Addr, .string x0.Text, x0v5, x0v6], .agg #[.int .u32 x1.Addr, .int .i64 x1.Len], .agg #[.int .i64 x2.Origin, x2v1, .int .u32 x2.Next, .int .i64 x2.Med, .int .i64 x2.Pref, .bool x2.Atomic, .bool x2.HasAggr, .int .u32 x2.AggrAS, .int .u32 x2.AggrAddr, x2v9, x2v10]]) Tryz.func20 rfl rfl <| sr <| g rfl (o_boxA rfl S fun b1 w S => g rfl (o_boxA rfl S fun b2 w S => g rfl (o_boxA rfl S fun b3 w S => mv (.bool false) rfl (sq (rg (mv (.bool false) rfl (sq (sq (rg (u rfl (x_fa tf27_0 rfl) (u rfl (x_ld tsc3 rfl (S.load 2 rfl 0 rfl)) (bk (sq (FW.anew [(3, pt b1), (4, pt b2), (5, pt b3), (7, .bool false), (11, .int .i64 x0.Kind)] ⟨rfl, rfl, rfl, rfl, rfl, trivial⟩ fun σ => rg (u rfl (x_bin rfl rfl rfl) (mv (.bool (x0.Kind == 0)) rfl ?_))))))))))))))))
 by_cases cc4 : x0.Kind = 0
 ·rw [if_pos cc4] at H
  refine cT rfl (eqT cc4) <| rg <| mv (.bool true) rfl <| sr <| mv (.bool true) rfl <| u rfl (x_fa tf27_1 rfl) <| u rfl (x_ld tsc4 rfl (S.load 2 rfl 1 rfl)) <| u rfl (x_bne tbool4 rfl rfl) <| mv (.bool (!(true == x0.Not))) rfl <| rt ?_
  obtain rfl := si H
  exact ⟨_, ⟨_, rfl, rfl⟩, ⟨rfl, ((S.sel 3 [] rfl).weaken hI)⟩⟩
 rw [if_neg cc4] at H
 refine cF rfl (eqF cc4) <| sr <| u rfl (x_bin rfl rfl rfl) <| mv (.bool (x0.Kind == 1)) rfl ?_
 by_cases cc5 : x0.Kind = 1
 ·rw [if_pos cc5] at H
  refine cT rfl (eqT cc5) <| rg <| u rfl (x_fa tf27_5 rfl) <| u rfl (x_ld tsc24 rfl (S.load 2 rfl 5 rfl)) <| u rfl (x_ldA tag36 rfl (S.loadW 1 rfl) rfl) ?_
  obtain ⟨y6, hy7, H⟩ := obx H
  refine g rfl (cl fb49 (@filter_Any.ok k x0.Range x1 _ _ _ _ _ hG S x0h5 hy7) rfl ?_)
  rintro _ w ⟨rfl, S⟩
  refine mv (.bool y6) rfl <| sq <| FW.anew [(3, pt b1), (7, .bool y6)] ⟨rfl, rfl, trivial⟩ fun σ => rg <| mv (.bool y6) rfl <| u rfl (x_fa tf27_1 rfl) <| u rfl (x_ld tsc4 rfl (S.load 2 rfl 1 rfl)) <| u rfl (x_bne tbool4 rfl rfl) <| mv (.bool (!(y6 == x0.Not))) rfl <| rt ?_
  obtain rfl := si H
  exact ⟨_, ⟨_, rfl, rfl⟩, ⟨rfl, ((S.sel 3 [] rfl).weaken hI)⟩⟩
 rw [if_neg cc5] at H
 refine cF rfl (eqF cc5) <| sr <| u rfl (x_bin rfl rfl rfl) <| mv (.bool (x0.Kind == 2)) rfl ?_
 by_cases cc8 : x0.Kind = 2
 ·rw [if_pos cc8] at H
  refine cT rfl (eqT cc8) <| sr <| u rfl (x_fa tf27_4 rfl) <| u rfl (x_ld tsc9 rfl (S.load 2 rfl 4 rfl)) ?_
  obtain ⟨y9, hy10, H⟩ := obx H
  refine g rfl (cl fb43 (@regex_Parse.ok k x0.Text _ _ _ _ hG S hy10) rfl ?_)
  rintro _ w ⟨vy9_0, J11, hJ12, rfl, hy9_0, S⟩
  have x2h1 := x2h1.mono hJ12
  have hI := hI.trans hJ12
  have hG := hG.mono hJ12
  refine mv (.tuple #[vy9_0, .int .i64 y9.2]) rfl <| u rfl (x_ext rfl rfl) <| u rfl (x_ext rfl rfl) <| mv vy9_0 rfl <| mv (.int .i64 y9.2) rfl <| FW.anew [(3, pt b1), (5, pt b3), (8, vy9_0)] ⟨rfl, rfl, rfl, trivial⟩ fun σ => rg <| mv vy9_0 rfl <| u rfl (x_fa tf40_1 rfl) <| u rfl (x_ld tsc37 rfl (S.load 0 rfl 1 rfl)) ?_
  obtain ⟨y13, hy14, H⟩ := obx H
  refine g rfl (cl fb51 (@aspath_Flat.ok k x2.Path _ _ _ _ _ hG S x2h1 hy14) rfl ?_)
  rintro vy13_0 w ⟨vy13_0q, J15, hJ16, rfl, hy13_0, S⟩
  have hy9_0 := hy9_0.mono hJ16
  have hI := hI.trans hJ16
  have hG := hG.mono hJ16
  obtain ⟨y17, hy18, H⟩ := obx H
  refine g rfl (cl fb50 (@regex_Expr_Match.ok k y9.1 y13 _ _ _ _ _ _ hG S hy9_0 hy13_0 hy18) rfl ?_)
  rintro _ w ⟨rfl, S⟩
  refine mv (.bool y17) rfl <| sr <| mv (.bool y17) rfl <| u rfl (x_fa tf27_1 rfl) <| u rfl (x_ld tsc4 rfl (S.load 3 rfl 1 rfl)) <| u rfl (x_bne tbool4 rfl rfl) <| mv (.bool (!(y17 == x0.Not))) rfl <| rt ?_
  obtain rfl := si H
  exact ⟨_, ⟨_, rfl, rfl⟩, ⟨rfl, ((S.sel 4 [] rfl).weaken hI)⟩⟩
 rw [if_neg cc8] at H
 refine cF rfl (eqF cc8) <| sr <| u rfl (x_bin rfl rfl rfl) <| mv (.bool (x0.Kind == 3)) rfl ?_
 by_cases cc19 : x0.Kind = 3
 ·rw [if_pos cc19] at H
  refine cT rfl (eqT cc19) <| FW.anew [(3, pt b1), (5, pt b3)] ⟨rfl, rfl, trivial⟩ fun σ => rg <| u rfl (x_fa tf40_9 rfl) <| u rfl (x_ld tsc25 rfl (S.load 0 rfl 9 rfl)) <| u rfl (x_fa tf27_6 rfl) <| u rfl (x_ld tsc25 rfl (S.load 2 rfl 6 rfl)) ?_
  obtain ⟨y20, hy21, H⟩ := obx H
  refine g rfl (cl fb52 (@filter_All.ok k x2.Comms x0.Comms _ _ _ _ _ _ hG S x2h9 x0h6 hy21) rfl ?_)
  rintro _ w ⟨rfl, S⟩
  refine mv (.bool y20) rfl <| sr <| mv (.bool y20) rfl <| u rfl (x_fa tf27_1 rfl) <| u rfl (x_ld tsc4 rfl (S.load 2 rfl 1 rfl)) <| u rfl (x_bne tbool4 rfl rfl) <| mv (.bool (!(y20 == x0.Not))) rfl <| rt ?_
  obtain rfl := si H
  exact ⟨_, ⟨_, rfl, rfl⟩, ⟨rfl, ((S.sel 3 [] rfl).weaken hI)⟩⟩
 rw [if_neg cc19] at H
 refine cF rfl (eqF cc19) <| sq <| FW.anew [(3, pt b1), (5, pt b3), (7, .bool false), (11, .int .i64 x0.Kind)] ⟨rfl, rfl, rfl, rfl, trivial⟩ fun σ => rg <| u rfl (x_bin rfl rfl rfl) <| mv (.bool (x0.Kind == 4)) rfl ?_
 by_cases cc22 : x0.Kind = 4
 ·rw [if_pos cc22] at H
  refine cT rfl (eqT cc22) ?_
  have S := S.drew
  refine FW.regionD mixed ?_
  have hO := Hold.nil (w := { w with drawn := w.drawn + 1 })
  refine ap 0 rfl (by kernel_rfl) hO (fun w => x_fa tf40_1 rfl) ?_
  have hR23 := IMem.le.refl I
  refine ak (Stab I [.bk b3 40 [.int .i64 x2.Origin, x2v1, .int .u32 x2.Next, .int .i64 x2.Med, .int .i64 x2.Pref, .bool x2.Atomic, .bool x2.HasAggr, .int .u32 x2.AggrAS, .int .u32 x2.AggrAddr, x2v9, x2v10]]) 1 rfl (by kernel_rfl) hO (Stab.of S 0 rfl hR23) (fun w hS => x_ld tsc37 rfl (hS.load 0 rfl 1 rfl)) fun hO => ap 3 rfl (by kernel_rfl) hO (fun w => x_fa tf27_2 rfl) <| ak (Stab I [.bk b1 27 [.int .i64 x0.Kind, .bool x0.Not, .int .i64 x0.Num, .int .u32 x0.Addr, .string x0.Text, x0v5, x0v6]]) 4 rfl (by kernel_rfl) hO (Stab.of S 2 rfl hR23) (fun w hS => x_ld tsc3 rfl (hS.load 0 rfl 2 rfl)) fun hO => AQ.one 2 [4, 1] [true, false] (by kernel_rfl) rfl (by kernel_rfl) ?_
  obtain ⟨y24, hy25, H⟩ := obx H
  refine g rfl (cl fb53 (@aspath_Count.ok k x2.Path _ _ _ _ _ hG S x2h1 hy25) rfl ?_)
  rintro _ w ⟨rfl, S⟩
  refine andI (Hold.cons (Stab.of S 2 rfl hR23) Hold.nil) fun hO => ap 5 rfl (by kernel_rfl) hO (fun w => x_bin rfl rfl rfl) <| ap 6 rfl (by kernel_rfl) hO (fun w => x_asgV (v := .bool (decide (y24 > x0.Num))) rfl) <| AQ.done (by kernel_rfl) <| sq <| FW.anew [(3, pt b1), (7, .bool (decide (y24 > x0.Num)))] ⟨rfl, rfl, trivial⟩ fun σ => rg <| mv (.bool (decide (y24 > x0.Num))) rfl <| u rfl (x_fa tf27_1 rfl) <| u rfl (x_ld tsc4 rfl (S.load 2 rfl 1 rfl)) <| u rfl (x_bne tbool4 rfl rfl) <| mv (.bool (!((decide (y24 > x0.Num)) == x0.Not))) rfl <| rt ?_
  obtain rfl := si H
  exact ⟨_, ⟨_, rfl, rfl⟩, ⟨rfl, ((S.sel 3 [] rfl).weaken hI)⟩⟩
 rw [if_neg cc22] at H
 refine cF rfl (eqF cc22) <| sr <| u rfl (x_bin rfl rfl rfl) <| mv (.bool (x0.Kind == 5)) rfl ?_
 by_cases cc26 : x0.Kind = 5
 ·rw [if_pos cc26] at H
  refine cT rfl (eqT cc26) <| rg <| u rfl (x_fa tf40_2 rfl) <| u rfl (x_ld tsc23 rfl (S.load 0 rfl 2 rfl)) <| u rfl (x_fa tf27_3 rfl) <| u rfl (x_ld tsc23 rfl (S.load 2 rfl 3 rfl)) <| u rfl (x_bin rfl rfl rfl) <| mv (.bool (x2.Next == x0.Addr)) rfl <| sq <| FW.anew [(3, pt b1), (7, .bool (x2.Next == x0.Addr))] ⟨rfl, rfl, trivial⟩ fun σ => rg <| mv (.bool (x2.Next == x0.Addr)) rfl <| u rfl (x_fa tf27_1 rfl) <| u rfl (x_ld tsc4 rfl (S.load 2 rfl 1 rfl)) <| u rfl (x_bne tbool4 rfl rfl) <| mv (.bool (!((x2.Next == x0.Addr) == x0.Not))) rfl <| rt ?_
  obtain rfl := si H
  exact ⟨_, ⟨_, rfl, rfl⟩, ⟨rfl, ((S.sel 3 [] rfl).weaken hI)⟩⟩
 rw [if_neg cc26] at H
 refine cF rfl (eqF cc26) <| sr <| u rfl (x_bin rfl rfl rfl) <| mv (.bool (x0.Kind == 6)) rfl ?_
 by_cases cc27 : x0.Kind = 6
 ·rw [if_pos cc27] at H
  refine cT rfl (eqT cc27) <| rg <| u rfl (x_fa tf40_0 rfl) <| u rfl (x_ld tsc3 rfl (S.load 0 rfl 0 rfl)) <| u rfl (x_fa tf27_2 rfl) <| u rfl (x_ld tsc3 rfl (S.load 2 rfl 2 rfl)) <| u rfl (x_bin rfl rfl rfl) <| mv (.bool (x2.Origin == x0.Num)) rfl <| sq <| FW.anew [(3, pt b1), (7, .bool (x2.Origin == x0.Num))] ⟨rfl, rfl, trivial⟩ fun σ => rg <| mv (.bool (x2.Origin == x0.Num)) rfl <| u rfl (x_fa tf27_1 rfl) <| u rfl (x_ld tsc4 rfl (S.load 2 rfl 1 rfl)) <| u rfl (x_bne tbool4 rfl rfl) <| mv (.bool (!((x2.Origin == x0.Num) == x0.Not))) rfl <| rt ?_
  obtain rfl := si H
  exact ⟨_, ⟨_, rfl, rfl⟩, ⟨rfl, ((S.sel 3 [] rfl).weaken hI)⟩⟩
 rw [if_neg cc27] at H
 refine cF rfl (eqF cc27) <| sk <| sr <| mv (.bool false) rfl <| u rfl (x_fa tf27_1 rfl) <| u rfl (x_ld tsc4 rfl (S.load 2 rfl 1 rfl)) <| u rfl (x_bne tbool4 rfl rfl) <| mv (.bool (!(false == x0.Not))) rfl <| rt ?_
 obtain rfl := si H
 exact ⟨_, ⟨_, rfl, rfl⟩, ⟨rfl, ((S.sel 3 [] rfl).weaken hI)⟩⟩
def policy_prepend.f (_ : Nat) (_ : (List T_api_Segment)) (_ : Int) (_ : Int) : Option (List T_api_Segment) := none
abbrev policy_prepend.C (k : Nat) : Prop := ∀ {x0 : (List T_api_Segment)} {x1 : Int} {x2 : Int} {vx0 : Value} {F : List It} {I : IMem} {w : World} {r : (List T_api_Segment)}, Glob I → Own I w (F) → SlR R_api_Segment I vx0 x0 → policy_prepend.f k x0 x1 x2 = some r →
    Calls Tryz.prog 99 #[vx0, .int .u32 x1, .int .i64 x2] w fun e w' => ∃ v, e = .returned v ∧ ∃ (vy_0 : Value) (J : IMem), I.le J ∧ v = vy_0 ∧ SlR R_api_Segment J vy_0 r ∧ Own J w' (F)
theorem policy_prepend.ok (k : Nat) : policy_prepend.C k := by
  intro _ _ _ _ _ _ _ _ _ _ _ H
  unfold policy_prepend.f at H
  cases H
def filter_Add.f (_ : Nat) (_ : (List Int)) (_ : Int) : Option (List Int) := none
abbrev filter_Add.C (k : Nat) : Prop := ∀ {x0 : (List Int)} {x1 : Int} {vx0 : Value} {F : List It} {I : IMem} {w : World} {r : (List Int)}, Glob I → Own I w (F) → SlR (tInt' .u32) I vx0 x0 → filter_Add.f k x0 x1 = some r →
    Calls Tryz.prog 100 #[vx0, .int .u32 x1] w fun e w' => ∃ v, e = .returned v ∧ ∃ (vy_0 : Value) (J : IMem), I.le J ∧ v = vy_0 ∧ SlR (tInt' .u32) J vy_0 r ∧ Own J w' (F)
theorem filter_Add.ok (k : Nat) : filter_Add.C k := by
  intro _ _ _ _ _ _ _ _ _ _ H
  unfold filter_Add.f at H
  cases H
def filter_Drop.f (_ : Nat) (_ : (List Int)) (_ : Int) : Option (List Int) := none
abbrev filter_Drop.C (k : Nat) : Prop := ∀ {x0 : (List Int)} {x1 : Int} {vx0 : Value} {F : List It} {I : IMem} {w : World} {r : (List Int)}, Glob I → Own I w (F) → SlR (tInt' .u32) I vx0 x0 → filter_Drop.f k x0 x1 = some r →
    Calls Tryz.prog 101 #[vx0, .int .u32 x1] w fun e w' => ∃ v, e = .returned v ∧ ∃ (vy_0 : Value) (J : IMem), I.le J ∧ v = vy_0 ∧ SlR (tInt' .u32) J vy_0 r ∧ Own J w' (F)
theorem filter_Drop.ok (k : Nat) : filter_Drop.C k := by
  intro _ _ _ _ _ _ _ _ _ _ H
  unfold filter_Drop.f at H
  cases H
end Go.Proofs.YtafnenafbognkaaGreatDoor
