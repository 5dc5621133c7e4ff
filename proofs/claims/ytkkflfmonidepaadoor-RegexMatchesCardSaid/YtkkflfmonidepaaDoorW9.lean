/-
  Parts of the proof, merged: F3, F4.
-/
import Derived.Test.YtkkflfmonidepaaDoorW8
namespace Go.Proofs.YtkkflfmonidepaaDoor
open Sp
set_option maxRecDepth 100000
set_option maxHeartbeats 4000000
mutual
def regex_Expr_compile.l0 : Nat → T_regex_piece → Int → Int → (List T_regex_piece) → (List T_regex_span) → Bool → (List T_regex_step) → Option (Int × (List T_regex_piece) × (List T_regex_span) × Bool × (List T_regex_step))
  | 0, _, _, _, _, _, _, _ => none
  | k + 1, x1, n4, n5, l6, l9, b12, l13 => (if n4 < (x1.parts.length : Int) then ((lat x1.parts n4).bind fun y39 => ((regex_Expr_compile.f k (T_regex_Expr.mk (T_regex_piece.mk n5 l6 l9 b12) l13) y39).bind fun y47 => (regex_Expr_compile.l0 k x1 (i64 (n4 + 1)) y47.top.kind y47.top.parts y47.top.spans y47.top.not y47.prog))) else (some (n5, l6, l9, b12, l13)))
def regex_Expr_compile.f : Nat → T_regex_Expr → T_regex_piece → Option T_regex_Expr
  | 0, _, _ => none
  | k + 1, x0, x1 => (if x1.kind = 0 then ((regex_Expr_compile.l0 k x1 0 x0.top.kind x0.top.parts x0.top.spans x0.top.not x0.prog).bind fun (n24, l25, l28, b31, l32) => (some (T_regex_Expr.mk (T_regex_piece.mk n24 l25 l28 b31) l32))) else (if x1.kind = 1 then ((regex_Expr_choices.f k x0 x1.parts).bind fun y52 => (some y52)) else ((if x1.kind = 2 then (some (x1.kind == 2)) else (some (x1.kind == 4))).bind fun b57 => (if b57 = true then ((regex_Expr_put.f k x0 (T_regex_step.mk 0 x1.spans false x1.not (0, 0))).bind fun y63 => (some y63.2)) else (if x1.kind = 3 then ((regex_Expr_put.f k x0 (T_regex_step.mk 0 [] true false (0, 0))).bind fun y68 => (some y68.2)) else (if x1.kind = 5 then ((regex_Expr_put.f k x0 (T_regex_step.mk 2 [] false false (0, 0))).bind fun y73 => (some y73.2)) else (if x1.kind = 6 then ((regex_Expr_put.f k x0 (T_regex_step.mk 3 [] false false (0, 0))).bind fun y78 => (some y78.2)) else (if x1.kind = 8 then ((lat x1.parts 0).bind fun y83 => ((regex_Expr_compile.f k x0 y83).bind fun y90 => ((regex_Expr_put.f k y90 (T_regex_step.mk 1 [] false false (0, 0))).bind fun y94 => ((lat y94.2.prog y94.1).bind fun y99 => (some (T_regex_Expr.mk y94.2.top (y94.2.prog.set y94.1.toNat (T_regex_step.mk y99.op y99.spans y99.all y99.not ((x0.prog.length : Int), (y94.2.prog.length : Int)))))))))) else ((regex_Expr_put.f k x0 (T_regex_step.mk 1 [] false false (0, 0))).bind fun y109 => ((lat y109.2.prog y109.1).bind fun y114 => ((lat x1.parts 0).bind fun y124 => ((regex_Expr_compile.f k (T_regex_Expr.mk y109.2.top (y109.2.prog.set y109.1.toNat (T_regex_step.mk y114.op y114.spans y114.all y114.not ((y109.2.prog.length : Int), y114.to_.2)))) y124).bind fun y131 => ((if x1.kind = 7 then ((regex_Expr_put.f k y131 (T_regex_step.mk 1 [] false false (0, 0))).bind fun y153 => ((lat y153.2.prog y153.1).bind fun y157 => (some (y153.2.top.kind, y153.2.top.parts, y153.2.top.spans, y153.2.top.not, (y153.2.prog.set y153.1.toNat (T_regex_step.mk y157.op y157.spans y157.all y157.not (y109.1, y109.1))))))) else (some (y131.top.kind, y131.top.parts, y131.top.spans, y131.top.not, y131.prog))).bind fun (n136, l137, l140, b143, l144) => ((lat l144 y109.1).bind fun y168 => (some (T_regex_Expr.mk (T_regex_piece.mk n136 l137 l140 b143) (l144.set y109.1.toNat (T_regex_step.mk y168.op y168.spans y168.all y168.not (y168.to_.1, (l144.length : Int))))))))))))))))))))
def regex_Expr_choices.l0 : Nat → (List T_regex_piece) → (List Int) → Int → Int → (List T_regex_piece) → (List T_regex_span) → Bool → (List T_regex_step) → Option ((List Int) × Int × (List T_regex_piece) × (List T_regex_span) × Bool × (List T_regex_step))
  | 0, _, _, _, _, _, _, _, _ => none
  | k + 1, x1, l3, n6, n7, l8, l11, b14, l15 => (if n6 < (x1.length : Int) then ((lat x1 n6).bind fun y44 => (if n6 = (i64 ((x1.length : Int) - 1)) then ((regex_Expr_compile.f k (T_regex_Expr.mk (T_regex_piece.mk n7 l8 l11 b14) l15) y44).bind fun y53 => (some (l3, y53.top.kind, y53.top.parts, y53.top.spans, y53.top.not, y53.prog))) else ((regex_Expr_put.f k (T_regex_Expr.mk (T_regex_piece.mk n7 l8 l11 b14) l15) (T_regex_step.mk 1 [] false false (0, 0))).bind fun y57 => ((lat y57.2.prog y57.1).bind fun y62 => ((regex_Expr_compile.f k (T_regex_Expr.mk y57.2.top (y57.2.prog.set y57.1.toNat (T_regex_step.mk y62.op y62.spans y62.all y62.not ((y57.2.prog.length : Int), y62.to_.2)))) y44).bind fun y72 => ((regex_Expr_put.f k y72 (T_regex_step.mk 1 [] false false (0, 0))).bind fun y76 => ((app 8 l3 [y76.1]).bind fun l84 => ((lat y76.2.prog y57.1).bind fun y91 => (regex_Expr_choices.l0 k x1 l84 (i64 (n6 + 1)) y76.2.top.kind y76.2.top.parts y76.2.top.spans y76.2.top.not (y76.2.prog.set y57.1.toNat (T_regex_step.mk y91.op y91.spans y91.all y91.not (y91.to_.1, (y76.2.prog.length : Int))))))))))))) else (some (l3, n7, l8, l11, b14, l15)))
def regex_Expr_choices.l1 : Nat → (List Int) → Int → (List T_regex_step) → Option (List T_regex_step)
  | 0, _, _, _ => none
  | k + 1, l26, n102, l103 => (if n102 < (l26.length : Int) then ((lat l26 n102).bind fun y121 => ((lat l103 y121).bind fun y129 => (regex_Expr_choices.l1 k l26 (i64 (n102 + 1)) (l103.set y121.toNat (T_regex_step.mk y129.op y129.spans y129.all y129.not ((l103.length : Int), (l103.length : Int))))))) else (some l103))
def regex_Expr_choices.f : Nat → T_regex_Expr → (List T_regex_piece) → Option T_regex_Expr
  | 0, _, _ => none
  | k + 1, x0, x1 => ((regex_Expr_choices.l0 k x1 [] 0 x0.top.kind x0.top.parts x0.top.spans x0.top.not x0.prog).bind fun (l26, n29, l30, l33, b36, l37) => ((regex_Expr_choices.l1 k l26 0 l37).bind fun l114 => (some (T_regex_Expr.mk (T_regex_piece.mk n29 l30 l33 b36) l114))))
end
abbrev regex_Expr_compile.C (k : Nat) : Prop := ∀ {x0 : T_regex_Expr} {x1 : T_regex_piece} {x0v1 : Value} {x0v2 : Value} {x0v4 : Value} {cx0_4 : List Value} {x1v1 : Value} {x1v2 : Value} {bx0 : Nat} {F : List It} {I : IMem} {w : World} {r : T_regex_Expr}, Glob I → Own I w (.bk bx0 55 [.int .i64 x0.top.kind, x0v1, x0v2, .bool x0.top.not, x0v4] :: .av x0v4 59 6 cx0_4 :: F) → SlR R_regex_piece I x0v1 x0.top.parts → SlR R_regex_span I x0v2 x0.top.spans → Flat R_regex_step I cx0_4 x0.prog → SlR R_regex_piece I x1v1 x1.parts → SlR R_regex_span I x1v2 x1.spans → regex_Expr_compile.f k x0 x1 = some r →
    Calls Tryd.prog 19 #[.pointer (some ⟨bx0, 0, none⟩), .agg #[.int .i64 x1.kind, x1v1, x1v2, .bool x1.not]] w fun e w' => ∃ v, e = .returned v ∧ ∃ (y_0v1 : Value) (y_0v2 : Value) (y_0v4 : Value) (cy_0_4 : List Value) (J : IMem), I.le J ∧ v = .tuple #[] ∧ SlR R_regex_piece J y_0v1 r.top.parts ∧ SlR R_regex_span J y_0v2 r.top.spans ∧ Flat R_regex_step J cy_0_4 r.prog ∧ Own J w' (.bk bx0 55 [.int .i64 r.top.kind, y_0v1, y_0v2, .bool r.top.not, y_0v4] :: .av y_0v4 59 6 cy_0_4 :: F)
abbrev regex_Expr_choices.C (k : Nat) : Prop := ∀ {x0 : T_regex_Expr} {x1 : (List T_regex_piece)} {x0v1 : Value} {x0v2 : Value} {x0v4 : Value} {cx0_4 : List Value} {vx1 : Value} {bx0 : Nat} {F : List It} {I : IMem} {w : World} {r : T_regex_Expr}, Glob I → Own I w (.bk bx0 55 [.int .i64 x0.top.kind, x0v1, x0v2, .bool x0.top.not, x0v4] :: .av x0v4 59 6 cx0_4 :: F) → SlR R_regex_piece I x0v1 x0.top.parts → SlR R_regex_span I x0v2 x0.top.spans → Flat R_regex_step I cx0_4 x0.prog → SlR R_regex_piece I vx1 x1 → regex_Expr_choices.f k x0 x1 = some r →
    Calls Tryd.prog 30 #[.pointer (some ⟨bx0, 0, none⟩), vx1] w fun e w' => ∃ v, e = .returned v ∧ ∃ (y_0v1 : Value) (y_0v2 : Value) (y_0v4 : Value) (cy_0_4 : List Value) (J : IMem), I.le J ∧ v = .tuple #[] ∧ SlR R_regex_piece J y_0v1 r.top.parts ∧ SlR R_regex_span J y_0v2 r.top.spans ∧ Flat R_regex_step J cy_0_4 r.prog ∧ Own J w' (.bk bx0 55 [.int .i64 r.top.kind, y_0v1, y_0v2, .bool r.top.not, y_0v4] :: .av y_0v4 59 6 cy_0_4 :: F)
theorem regex_Expr_compile.step (k : Nat) (ih_regex_Expr_compile : ∀ m, m ≤ k → regex_Expr_compile.C m) (ih_regex_Expr_choices : ∀ m, m ≤ k → regex_Expr_choices.C m) : regex_Expr_compile.C (k + 1) := by
  intro x0 x1 x0v1 x0v2 x0v4 cx0_4 x1v1 x1v2 bx0 F I w r hG S x0h1 x0h2 x0h4 x1h1 x1h2 H
  have hI := IMem.le.refl I
  rw [regex_Expr_compile.f] at H
  refine Calls.ofFW (args := [.pointer (some ⟨bx0, 0, none⟩), .agg #[.int .i64 x1.kind, x1v1, x1v2, .bool x1.not]]) Tryd.func19 rfl rfl ?_
  refine FW.seq ?_
  refine FW.region ?_
  refine U rfl rfl (o_boxA rfl S fun b1 w S => ?_)
  refine FW.seq ?_
  refine FW.region ?_
  refine U rfl rfl (V (x_fa tf48_0 rfl) ?_)
  refine U rfl rfl (V (x_ld tsc3 rfl (S.load 0 rfl 0 rfl)) ?_)
  refine FW.block ?_
  refine FW.seq ?_
  refine FW.region ?_
  refine U rfl rfl (V (x_bin rfl rfl rfl) ?_)
  refine U rfl rfl (V (x_asgV (v := .bool (x1.kind == 0)) rfl) ?_)
  by_cases cc2 : x1.kind = 0
  · rw [if_pos cc2] at H
    refine FW.condT rfl (eqT cc2) ?_
    refine FW.seq ?_
    refine FW.region ?_
    refine U rfl rfl (V (x_fa tf48_1 rfl) ?_)
    refine U rfl rfl (V (x_ld tsc45 rfl (S.load 0 rfl 1 rfl)) ?_)
    refine U rfl rfl (V (x_lenD (r := R_regex_piece) tsl45 x1h1) ?_)
    refine U rfl rfl (V (x_movV (v := .int .i64 0) rfl) ?_)
    refine FW.block ?_
    obtain ⟨o20, hl22, HO21⟩ := obx H
    refine FW.cutX 1 (fun σ w => ∃ (n24 : Int) (l25 : (List T_regex_piece)) (l28 : (List T_regex_span)) (b31 : Bool) (l32 : (List T_regex_step)) (v26 : Value) (v29 : Value) (v33 : Value) (a34 : List Value) (J23 : IMem), (n24, l25, l28, b31, l32) = o20 ∧ Has σ [] ∧ I.le J23 ∧ Own J23 w (.bk b1 48 [.int .i64 x1.kind, x1v1, x1v2, .bool x1.not] :: .bk bx0 55 [.int .i64 n24, v26, v29, .bool b31, v33] :: .av v33 59 6 a34 :: F) ∧ SlR R_regex_piece J23 v26 l25 ∧ SlR R_regex_span J23 v29 l28 ∧ Flat R_regex_step J23 a34 l32) ?_ ?_
    ·
      refine FW.loop k (FL.ind (fun q σ w => ∃ (n4 : Int) (n5 : Int) (l6 : (List T_regex_piece)) (l9 : (List T_regex_span)) (b12 : Bool) (l13 : (List T_regex_step)) (v7 : Value) (v10 : Value) (v14 : Value) (a15 : List Value) (J3 : IMem), regex_Expr_compile.l0 q x1 n4 n5 l6 l9 b12 l13 = some o20 ∧ q ≤ k ∧ Has σ [(0, .pointer (some ⟨bx0, 0, none⟩)), (66, x1v1), (67, .int .i64 (x1.parts.length : Int)), (68, .int .i64 n4)] ∧ I.le J3 ∧ Own J3 w (.bk b1 48 [.int .i64 x1.kind, x1v1, x1v2, .bool x1.not] :: .bk bx0 55 [.int .i64 n5, v7, v10, .bool b12, v14] :: .av v14 59 6 a15 :: F) ∧ SlR R_regex_piece J3 v7 l6 ∧ SlR R_regex_span J3 v10 l9 ∧ Flat R_regex_step J3 a15 l13) ?_ ?_ k k _ _ (Nat.le_refl _) ⟨0, x0.top.kind, x0.top.parts, x0.top.spans, x0.top.not, x0.prog, x0v1, x0v2, x0v4, cx0_4, I, hl22, Nat.le_refl _, ⟨rfl, rfl, rfl, rfl, trivial⟩, (IMem.le.refl _), S, x0h1, x0h2, x0h4⟩)
      · rintro σ w ⟨n4, n5, l6, l9, b12, l13, v7, v10, v14, a15, J3, H, _⟩; cases H
      · rintro q18 σ w ⟨n4, n5, l6, l9, b12, l13, v7, v10, v14, a15, J3, H, hq37, hσ, hL19, S, h8, h11, h16⟩
        have x1h1 := x1h1.mono hL19
        have x1h2 := x1h2.mono hL19
        have hI := hI.trans hL19
        have hG := hG.mono hL19
        rw [hσ.eq]
        rw [regex_Expr_compile.l0] at H
        refine FW.seq ?_
        refine FW.region ?_
        refine U rfl rfl (V (x_bin rfl rfl rfl) ?_)
        refine FW.seq ?_
        by_cases cc38 : n4 < (x1.parts.length : Int)
        · rw [if_pos cc38] at H
          refine FW.condT rfl (deT cc38) ?_
          refine FW.skip ?_
          refine FW.seq ?_
          refine FW.block ?_
          refine FW.seq ?_
          refine FW.region ?_
          obtain ⟨y39, h40, H⟩ := obx H
          refine U rfl rfl (o_ia (r := R_regex_piece) tsl45 rfl rfl x1h1 rfl h40 fun b41 o42 cs43 hr44 hc45 => ?_)
          obtain ⟨y39v1, y39v2, rfl, y39h1, y39h2⟩ := R_regex_piece.un hr44
          refine U rfl rfl (V (x_ldA tag48 rfl (S.loadI hc45) rfl) ?_)
          refine U rfl rfl (o_all tz48 S fun b46 w S => ?_)
          refine U rfl rfl (o_stA tag48 S 0 rfl rfl rfl rfl (c1 rfl (c1 y39h1.one (c1 y39h2.one (c1 rfl c0)))) rfl fun w S => ?_)
          refine FW.region ?_
          refine U rfl rfl (V (x_movV (v := .pointer (some ⟨bx0, 0, none⟩)) rfl) ?_)
          refine U rfl rfl (V (x_ldA tag48 rfl (S.loadW 0 rfl) rfl) ?_)
          obtain ⟨y47, hy48, H⟩ := obx H
          refine U rfl rfl (cl fb19 (@ih_regex_Expr_compile q18 (by omega) (T_regex_Expr.mk (T_regex_piece.mk n5 l6 l9 b12) l13) y39 _ _ _ _ _ _ _ _ _ _ _ hG (S.sel 4 [2, 3, 0, 1] rfl) h8 h11 h16 y39h1 y39h2 hy48) rfl ?_)
          rintro _ w ⟨y47_0v1, y47_0v2, y47_0v4, cy47_0_4, J49, hJ50, rfl, y47_0h1, y47_0h2, y47_0h4, S⟩
          have x1h1 := x1h1.mono hJ50
          have y39h1 := y39h1.mono hJ50
          have y39h2 := y39h2.mono hJ50
          have x1h2 := x1h2.mono hJ50
          have hI := hI.trans hJ50
          have hL19 := hL19.trans hJ50
          have hG := hG.mono hJ50
          refine FW.anew [(0, .pointer (some ⟨bx0, 0, none⟩)), (66, x1v1), (67, .int .i64 (x1.parts.length : Int)), (68, .int .i64 n4)] ⟨rfl, rfl, rfl, rfl, trivial⟩ fun σ => ?_
          refine FW.region ?_
          refine U rfl rfl (V (x_bin rfl rfl rfl) ?_)
          refine U rfl rfl (V (x_movV (v := .int .i64 (i64 (n4 + 1))) rfl) ?_)
          exact ⟨q18, Nat.le_refl _, (i64 (n4 + 1)), y47.top.kind, y47.top.parts, y47.top.spans, y47.top.not, y47.prog, y47_0v1, y47_0v2, y47_0v4, cy47_0_4, J49, H, (Nat.le_of_succ_le hq37), ⟨rfl, rfl, rfl, rfl, trivial⟩, hL19, (S.sel 4 [3, 0, 1] rfl), y47_0h1, y47_0h2, y47_0h4⟩
        · rw [if_neg cc38] at H
          refine FW.condF rfl (deF cc38) ?_
          refine FW.exit ?_
          exact ⟨n5, l6, l9, b12, l13, v7, v10, v14, a15, J3, (Option.some.inj H), trivial, hL19, S, h8, h11, h16⟩
    · rintro σ w ⟨n24, l25, l28, b31, l32, v26, v29, v33, a34, J23, ho, hσ, hL19, S, h27, h30, h35⟩
      subst ho
      have H := HO21
      try dsimp only at H
      have x1h1 := x1h1.mono hL19
      have x1h2 := x1h2.mono hL19
      have hI := hI.trans hL19
      have hG := hG.mono hL19
      rw [hσ.eq]
      obtain rfl := Option.some.inj H
      exact ⟨_, rfl, ⟨v26, v29, v33, a34, J23, hI, rfl, h27, h30, h35, (S.sel 3 [1, 2] rfl)⟩⟩
  · rw [if_neg cc2] at H
    refine FW.condF rfl (eqF cc2) ?_
    refine FW.seq ?_
    refine FW.region ?_
    refine U rfl rfl (V (x_bin rfl rfl rfl) ?_)
    refine U rfl rfl (V (x_asgV (v := .bool (x1.kind == 1)) rfl) ?_)
    by_cases cc51 : x1.kind = 1
    · rw [if_pos cc51] at H
      refine FW.condT rfl (eqT cc51) ?_
      refine FW.anew [(0, .pointer (some ⟨bx0, 0, none⟩)), (3, .pointer (some ⟨b1, 0, none⟩))] ⟨rfl, rfl, trivial⟩ fun σ => ?_
      refine FW.region ?_
      refine U rfl rfl (V (x_movV (v := .pointer (some ⟨bx0, 0, none⟩)) rfl) ?_)
      refine U rfl rfl (V (x_fa tf48_1 rfl) ?_)
      refine U rfl rfl (V (x_ld tsc45 rfl (S.load 0 rfl 1 rfl)) ?_)
      obtain ⟨y52, hy53, H⟩ := obx H
      refine U rfl rfl (cl fb30 (@ih_regex_Expr_choices k (by omega) x0 x1.parts _ _ _ _ _ _ _ _ _ _ hG (S.sel 3 [1, 2, 0] rfl) x0h1 x0h2 x0h4 x1h1 hy53) rfl ?_)
      rintro _ w ⟨y52_0v1, y52_0v2, y52_0v4, cy52_0_4, J54, hJ55, rfl, y52_0h1, y52_0h2, y52_0h4, S⟩
      have x1h1 := x1h1.mono hJ55
      have x1h2 := x1h2.mono hJ55
      have hI := hI.trans hJ55
      have hG := hG.mono hJ55
      obtain rfl := Option.some.inj H
      exact ⟨_, rfl, ⟨y52_0v1, y52_0v2, y52_0v4, cy52_0_4, J54, hI, rfl, y52_0h1, y52_0h2, y52_0h4, (S.sel 3 [0, 1] rfl)⟩⟩
    · rw [if_neg cc51] at H
      refine FW.condF rfl (eqF cc51) ?_
      refine FW.seq ?_
      refine FW.seq ?_
      refine FW.anew [(0, .pointer (some ⟨bx0, 0, none⟩)), (3, .pointer (some ⟨b1, 0, none⟩)), (11, .int .i64 x1.kind)] ⟨rfl, rfl, rfl, trivial⟩ fun σ => ?_
      refine FW.region ?_
      refine U rfl rfl (V (x_bin rfl rfl rfl) ?_)
      refine U rfl rfl (V (x_asgV (v := .bool (x1.kind == 2)) rfl) ?_)
      obtain ⟨o58, H, HO59⟩ := obx H
      have hL60 := IMem.le.refl I
      refine FW.cutN (fun σ w => ∃ (b57 : Bool) (J56 : IMem), b57 = o58 ∧ Has σ [(0, .pointer (some ⟨bx0, 0, none⟩)), (3, .pointer (some ⟨b1, 0, none⟩)), (11, .int .i64 x1.kind), (82, .bool b57)] ∧ I.le J56 ∧ Own J56 w (.bk b1 48 [.int .i64 x1.kind, x1v1, x1v2, .bool x1.not] :: .bk bx0 55 [.int .i64 x0.top.kind, x0v1, x0v2, .bool x0.top.not, x0v4] :: .av x0v4 59 6 cx0_4 :: F)) ?_ ?_
      ·
        by_cases cc61 : x1.kind = 2
        · rw [if_pos cc61] at H
          refine FW.condT rfl (eqT cc61) ?_
          refine FW.skip ?_
          exact ⟨(x1.kind == 2), I, (Option.some.inj H), ⟨rfl, rfl, rfl, rfl, trivial⟩, hL60, S⟩
        · rw [if_neg cc61] at H
          refine FW.condF rfl (eqF cc61) ?_
          refine FW.region ?_
          refine U rfl rfl (V (x_bin rfl rfl rfl) ?_)
          refine U rfl rfl (V (x_asgV (v := .bool (x1.kind == 4)) rfl) ?_)
          exact ⟨(x1.kind == 4), I, (Option.some.inj H), ⟨rfl, rfl, rfl, rfl, trivial⟩, hL60, S⟩
      · rintro σ w ⟨b57, J56, ho, hσ, hL60, S⟩
        subst ho
        have H := HO59
        have x1h1 := x1h1.mono hL60
        have x1h2 := x1h2.mono hL60
        have x0h1 := x0h1.mono hL60
        have x0h2 := x0h2.mono hL60
        have x0h4 := x0h4.mono hL60
        have hI := hI.trans hL60
        have hG := hG.mono hL60
        rw [hσ.eq]
        by_cases cc62 : b57 = true
        · rw [if_pos cc62] at H
          refine FW.condT rfl cc62 ?_
          refine FW.region ?_
          refine U rfl rfl (V (x_movV (v := .pointer (some ⟨bx0, 0, none⟩)) rfl) ?_)
          refine U rfl rfl (V (x_fa tf48_2 rfl) ?_)
          refine U rfl rfl (V (x_ld tsc46 rfl (S.load 0 rfl 2 rfl)) ?_)
          refine U rfl rfl (V (x_fa tf48_3 rfl) ?_)
          refine U rfl rfl (V (x_ld tsc4 rfl (S.load 0 rfl 3 rfl)) ?_)
          refine U rfl rfl (V (x_bld tz59 tpl59 rfl (.one rfl (.one x1h2.one (.one rfl PC.nil))) rfl) ?_)
          obtain ⟨y63, hy64, H⟩ := obx H
          refine U rfl rfl (cl fb31 (@regex_Expr_put.ok k x0 (T_regex_step.mk 0 x1.spans false x1.not (0, 0)) _ _ _ _ _ _ _ _ _ _ hG (S.sel 3 [1, 2, 0] rfl) x0h1 x0h2 x0h4 x1h2 hy64) rfl ?_)
          rintro _ w ⟨y63_1v1, y63_1v2, y63_1v4, cy63_1_4, J65, hJ66, rfl, y63_1h1, y63_1h2, y63_1h4, S⟩
          have x1h2 := x1h2.mono hJ66
          have x1h1 := x1h1.mono hJ66
          have hI := hI.trans hJ66
          have hG := hG.mono hJ66
          obtain rfl := Option.some.inj H
          exact ⟨_, rfl, ⟨y63_1v1, y63_1v2, y63_1v4, cy63_1_4, J65, hI, rfl, y63_1h1, y63_1h2, y63_1h4, (S.sel 3 [0, 1] rfl)⟩⟩
        · rw [if_neg cc62] at H
          refine FW.condF rfl (vaF cc62) ?_
          refine FW.seq ?_
          refine FW.region ?_
          refine U rfl rfl (V (x_bin rfl rfl rfl) ?_)
          refine U rfl rfl (V (x_asgV (v := .bool (x1.kind == 3)) rfl) ?_)
          by_cases cc67 : x1.kind = 3
          · rw [if_pos cc67] at H
            refine FW.condT rfl (eqT cc67) ?_
            refine FW.region ?_
            refine U rfl rfl (V (x_movV (v := .pointer (some ⟨bx0, 0, none⟩)) rfl) ?_)
            refine U rfl rfl (V (x_bld tz59 tpl59 rfl (.one rfl (.one rfl PC.nil)) rfl) ?_)
            obtain ⟨y68, hy69, H⟩ := obx H
            refine U rfl rfl (cl fb31 (@regex_Expr_put.ok k x0 (T_regex_step.mk 0 [] true false (0, 0)) _ _ _ _ _ _ _ _ _ _ hG (S.sel 3 [1, 2, 0] rfl) x0h1 x0h2 x0h4 (SlR.nil _ _) hy69) rfl ?_)
            rintro _ w ⟨y68_1v1, y68_1v2, y68_1v4, cy68_1_4, J70, hJ71, rfl, y68_1h1, y68_1h2, y68_1h4, S⟩
            have x1h1 := x1h1.mono hJ71
            have x1h2 := x1h2.mono hJ71
            have hI := hI.trans hJ71
            have hG := hG.mono hJ71
            obtain rfl := Option.some.inj H
            exact ⟨_, rfl, ⟨y68_1v1, y68_1v2, y68_1v4, cy68_1_4, J70, hI, rfl, y68_1h1, y68_1h2, y68_1h4, (S.sel 3 [0, 1] rfl)⟩⟩
          · rw [if_neg cc67] at H
            refine FW.condF rfl (eqF cc67) ?_
            refine FW.seq ?_
            refine FW.region ?_
            refine U rfl rfl (V (x_bin rfl rfl rfl) ?_)
            refine U rfl rfl (V (x_asgV (v := .bool (x1.kind == 5)) rfl) ?_)
            by_cases cc72 : x1.kind = 5
            · rw [if_pos cc72] at H
              refine FW.condT rfl (eqT cc72) ?_
              refine FW.region ?_
              refine U rfl rfl (V (x_movV (v := .pointer (some ⟨bx0, 0, none⟩)) rfl) ?_)
              refine U rfl rfl (V (x_bld tz59 tpl59 rfl (.one rfl PC.nil) rfl) ?_)
              obtain ⟨y73, hy74, H⟩ := obx H
              refine U rfl rfl (cl fb31 (@regex_Expr_put.ok k x0 (T_regex_step.mk 2 [] false false (0, 0)) _ _ _ _ _ _ _ _ _ _ hG (S.sel 3 [1, 2, 0] rfl) x0h1 x0h2 x0h4 (SlR.nil _ _) hy74) rfl ?_)
              rintro _ w ⟨y73_1v1, y73_1v2, y73_1v4, cy73_1_4, J75, hJ76, rfl, y73_1h1, y73_1h2, y73_1h4, S⟩
              have x1h1 := x1h1.mono hJ76
              have x1h2 := x1h2.mono hJ76
              have hI := hI.trans hJ76
              have hG := hG.mono hJ76
              obtain rfl := Option.some.inj H
              exact ⟨_, rfl, ⟨y73_1v1, y73_1v2, y73_1v4, cy73_1_4, J75, hI, rfl, y73_1h1, y73_1h2, y73_1h4, (S.sel 3 [0, 1] rfl)⟩⟩
            · rw [if_neg cc72] at H
              refine FW.condF rfl (eqF cc72) ?_
              refine FW.seq ?_
              refine FW.region ?_
              refine U rfl rfl (V (x_bin rfl rfl rfl) ?_)
              refine U rfl rfl (V (x_asgV (v := .bool (x1.kind == 6)) rfl) ?_)
              by_cases cc77 : x1.kind = 6
              · rw [if_pos cc77] at H
                refine FW.condT rfl (eqT cc77) ?_
                refine FW.region ?_
                refine U rfl rfl (V (x_movV (v := .pointer (some ⟨bx0, 0, none⟩)) rfl) ?_)
                refine U rfl rfl (V (x_bld tz59 tpl59 rfl (.one rfl PC.nil) rfl) ?_)
                obtain ⟨y78, hy79, H⟩ := obx H
                refine U rfl rfl (cl fb31 (@regex_Expr_put.ok k x0 (T_regex_step.mk 3 [] false false (0, 0)) _ _ _ _ _ _ _ _ _ _ hG (S.sel 3 [1, 2, 0] rfl) x0h1 x0h2 x0h4 (SlR.nil _ _) hy79) rfl ?_)
                rintro _ w ⟨y78_1v1, y78_1v2, y78_1v4, cy78_1_4, J80, hJ81, rfl, y78_1h1, y78_1h2, y78_1h4, S⟩
                have x1h1 := x1h1.mono hJ81
                have x1h2 := x1h2.mono hJ81
                have hI := hI.trans hJ81
                have hG := hG.mono hJ81
                obtain rfl := Option.some.inj H
                exact ⟨_, rfl, ⟨y78_1v1, y78_1v2, y78_1v4, cy78_1_4, J80, hI, rfl, y78_1h1, y78_1h2, y78_1h4, (S.sel 3 [0, 1] rfl)⟩⟩
              · rw [if_neg cc77] at H
                refine FW.condF rfl (eqF cc77) ?_
                refine FW.seq ?_
                refine FW.region ?_
                refine U rfl rfl (V (x_bin rfl rfl rfl) ?_)
                refine U rfl rfl (V (x_asgV (v := .bool (x1.kind == 8)) rfl) ?_)
                by_cases cc82 : x1.kind = 8
                · rw [if_pos cc82] at H
                  refine FW.condT rfl (eqT cc82) ?_
                  refine FW.seq ?_
                  refine FW.anew [(0, .pointer (some ⟨bx0, 0, none⟩)), (3, .pointer (some ⟨b1, 0, none⟩))] ⟨rfl, rfl, trivial⟩ fun σ => ?_
                  refine FW.region ?_
                  refine U rfl rfl (V (x_movV (v := .pointer (some ⟨bx0, 0, none⟩)) rfl) ?_)
                  refine U rfl rfl (V (x_nk rfl) ?_)
                  refine U rfl rfl (V (x_fa tf55_1 rfl) ?_)
                  refine U rfl rfl (V (x_ld tsc53 rfl (S.load 1 rfl 4 rfl)) ?_)
                  refine U rfl rfl (V (x_lenV (r := R_regex_step) tsl53 rfl rfl S 2 rfl x0h4) ?_)
                  refine U rfl rfl (V (x_asgV (v := .int .i64 (x0.prog.length : Int)) rfl) ?_)
                  refine FW.seq ?_
                  refine FW.region ?_
                  refine U rfl rfl (V (x_movV (v := .pointer (some ⟨bx0, 0, none⟩)) rfl) ?_)
                  refine U rfl rfl (V (x_fa tf48_1 rfl) ?_)
                  refine U rfl rfl (V (x_ld tsc45 rfl (S.load 0 rfl 1 rfl)) ?_)
                  obtain ⟨y83, h84, H⟩ := obx H
                  refine U rfl rfl (o_ia (r := R_regex_piece) tsl45 rfl rfl x1h1 rfl h84 fun b85 o86 cs87 hr88 hc89 => ?_)
                  obtain ⟨y83v1, y83v2, rfl, y83h1, y83h2⟩ := R_regex_piece.un hr88
                  refine U rfl rfl (V (x_ldA tag48 rfl (S.loadI hc89) rfl) ?_)
                  obtain ⟨y90, hy91, H⟩ := obx H
                  refine U rfl rfl (cl fb19 (@ih_regex_Expr_compile k (by omega) x0 y83 _ _ _ _ _ _ _ _ _ _ _ hG (S.sel 3 [1, 2, 0] rfl) x0h1 x0h2 x0h4 y83h1 y83h2 hy91) rfl ?_)
                  rintro _ w ⟨y90_0v1, y90_0v2, y90_0v4, cy90_0_4, J92, hJ93, rfl, y90_0h1, y90_0h2, y90_0h4, S⟩
                  have x1h1 := x1h1.mono hJ93
                  have hc89 := hc89.mono hJ93
                  have y83h1 := y83h1.mono hJ93
                  have y83h2 := y83h2.mono hJ93
                  have x1h2 := x1h2.mono hJ93
                  have hI := hI.trans hJ93
                  have hG := hG.mono hJ93
                  refine FW.seq ?_
                  refine FW.anew [(0, .pointer (some ⟨bx0, 0, none⟩)), (6, .int .i64 (x0.prog.length : Int))] ⟨rfl, rfl, trivial⟩ fun σ => ?_
                  refine FW.region ?_
                  refine U rfl rfl (V (x_movV (v := .pointer (some ⟨bx0, 0, none⟩)) rfl) ?_)
                  refine U rfl rfl (V (x_bld tz59 tpl59 rfl (.one rfl PC.nil) rfl) ?_)
                  obtain ⟨y94, hy95, H⟩ := obx H
                  refine U rfl rfl (cl fb31 (@regex_Expr_put.ok k y90 (T_regex_step.mk 1 [] false false (0, 0)) _ _ _ _ _ _ _ _ _ _ hG S y90_0h1 y90_0h2 y90_0h4 (SlR.nil _ _) hy95) rfl ?_)
                  rintro _ w ⟨y94_1v1, y94_1v2, y94_1v4, cy94_1_4, J96, hJ97, rfl, y94_1h1, y94_1h2, y94_1h4, S⟩
                  have x1h1 := x1h1.mono hJ97
                  have x1h2 := x1h2.mono hJ97
                  have hI := hI.trans hJ97
                  have hG := hG.mono hJ97
                  refine U rfl rfl (V (x_asgV (v := .int .i64 y94.1) rfl) ?_)
                  have S := S.drew
                  refine FW.regionD mixed ?_
                  have hO := Hold.nil (w := { w with drawn := w.drawn + 1 })
                  refine AQ.pure 0 rfl (by kernel_rfl) (by kernel_rfl) (by kernel_rfl) rfl hO (fun w => x_movV (v := .pointer (some ⟨bx0, 0, none⟩)) rfl) ?_
                  refine AQ.pure 1 rfl (by kernel_rfl) (by kernel_rfl) (by kernel_rfl) rfl hO (fun w => x_nk rfl) ?_
                  refine AQ.pure 2 rfl (by kernel_rfl) (by kernel_rfl) (by kernel_rfl) rfl hO (fun w => x_fa tf55_1 rfl) ?_
                  have hR98 := IMem.le.refl J96
                  refine AQ.take (S := Stab J96 [.bk bx0 55 [.int .i64 y94.2.top.kind, y94_1v1, y94_1v2, .bool y94.2.top.not, y94_1v4]]) 3 rfl (by kernel_rfl) (by kernel_rfl) (by kernel_rfl) rfl hO (Stab.of S 0 rfl hR98) (fun w hS => x_ld tsc53 rfl (hS.load 0 rfl 4 rfl)) fun hO => ?_
                  refine AQ.pure 4 rfl (by kernel_rfl) (by kernel_rfl) (by kernel_rfl) rfl hO (fun w => x_movV (v := .int .i64 y94.1) rfl) ?_
                  refine AQ.pure 5 rfl (by kernel_rfl) (by kernel_rfl) (by kernel_rfl) rfl hO (fun w => x_movV (v := .int .i64 (x0.prog.length : Int)) rfl) ?_
                  refine AQ.pure 6 rfl (by kernel_rfl) (by kernel_rfl) (by kernel_rfl) rfl hO (fun w => x_movV (v := .pointer (some ⟨bx0, 0, none⟩)) rfl) ?_
                  refine AQ.pure 7 rfl (by kernel_rfl) (by kernel_rfl) (by kernel_rfl) rfl hO (fun w => x_nk rfl) ?_
                  refine AQ.pure 8 rfl (by kernel_rfl) (by kernel_rfl) (by kernel_rfl) rfl hO (fun w => x_fa tf55_1 rfl) ?_
                  refine AQ.take (S := Stab J96 [.bk bx0 55 [.int .i64 y94.2.top.kind, y94_1v1, y94_1v2, .bool y94.2.top.not, y94_1v4]]) 9 rfl (by kernel_rfl) (by kernel_rfl) (by kernel_rfl) rfl hO (Stab.of S 0 rfl hR98) (fun w hS => x_ld tsc53 rfl (hS.load 0 rfl 4 rfl)) fun hO => ?_
                  refine AQ.pure 10 rfl (by kernel_rfl) (by kernel_rfl) (by kernel_rfl) rfl hO (fun w => x_lenVD (r := R_regex_step) tsl53 rfl rfl S 1 rfl y94_1h4 w) ?_
                  refine AQ.pure 11 rfl (by kernel_rfl) (by kernel_rfl) (by kernel_rfl) rfl hO (fun w => x_bldA tar57 tz57 rfl (.one rfl (.one rfl PC.nil)) rfl) ?_
                  obtain ⟨y99, h100, H⟩ := obx H
                  refine AQ.pureE 12 rfl (by kernel_rfl) (by kernel_rfl) (by kernel_rfl) rfl hO (e_iaVD (r := R_regex_step) tsl53 rfl rfl S 1 rfl y94_1h4 rfl h100) ?_
                  rintro _ ⟨b101, cs102, cc103, rfl, hv104, hr105, hc106⟩
                  obtain ⟨y99v1, rfl, y99h1⟩ := hr105
                  refine AQ.pure 13 rfl (by kernel_rfl) (by kernel_rfl) (by kernel_rfl) rfl hO (fun w => x_fa tf59_4 rfl) ?_
                  refine AQ.one 14 [9, 3] [false, false] (by kernel_rfl) rfl (by kernel_rfl) ?_
                  refine U rfl rfl (o_stVA (r := R_regex_step) (f := 4) (y' := (T_regex_step.mk y99.op y99.spans y99.all y99.not ((x0.prog.length : Int), (y94.2.prog.length : Int)))) tag57 rfl S 1 rfl hv104 y94_1h4 h100 ⟨y99v1, rfl, y99h1⟩ hc106 rfl rfl rfl rfl rfl (c1 rfl (c1 rfl c0)) ⟨y99v1, rfl, y99h1⟩ fun w a107 S h108 => ?_)
                  refine andI Hold.nil fun hO => ?_
                  refine AQ.done (by kernel_rfl) ?_
                  obtain rfl := Option.some.inj H
                  exact ⟨_, rfl, ⟨y94_1v1, y94_1v2, y94_1v4, a107, J96, hI, rfl, y94_1h1, y94_1h2, h108, (S.sel 3 [0, 1] rfl)⟩⟩
                · rw [if_neg cc82] at H
                  refine FW.condF rfl (eqF cc82) ?_
                  refine FW.seq ?_
                  refine FW.anew [(0, .pointer (some ⟨bx0, 0, none⟩)), (3, .pointer (some ⟨b1, 0, none⟩))] ⟨rfl, rfl, trivial⟩ fun σ => ?_
                  refine FW.region ?_
                  refine U rfl rfl (V (x_movV (v := .pointer (some ⟨bx0, 0, none⟩)) rfl) ?_)
                  refine U rfl rfl (V (x_bld tz59 tpl59 rfl (.one rfl PC.nil) rfl) ?_)
                  obtain ⟨y109, hy110, H⟩ := obx H
                  refine U rfl rfl (cl fb31 (@regex_Expr_put.ok k x0 (T_regex_step.mk 1 [] false false (0, 0)) _ _ _ _ _ _ _ _ _ _ hG (S.sel 3 [1, 2, 0] rfl) x0h1 x0h2 x0h4 (SlR.nil _ _) hy110) rfl ?_)
                  rintro _ w ⟨y109_1v1, y109_1v2, y109_1v4, cy109_1_4, J111, hJ112, rfl, y109_1h1, y109_1h2, y109_1h4, S⟩
                  have x1h1 := x1h1.mono hJ112
                  have x1h2 := x1h2.mono hJ112
                  have hI := hI.trans hJ112
                  have hG := hG.mono hJ112
                  refine U rfl rfl (V (x_asgV (v := .int .i64 y109.1) rfl) ?_)
                  refine FW.seq ?_
                  have S := S.drew
                  refine FW.regionD mixed ?_
                  have hO := Hold.nil (w := { w with drawn := w.drawn + 1 })
                  refine AQ.pure 0 rfl (by kernel_rfl) (by kernel_rfl) (by kernel_rfl) rfl hO (fun w => x_movV (v := .pointer (some ⟨bx0, 0, none⟩)) rfl) ?_
                  refine AQ.pure 1 rfl (by kernel_rfl) (by kernel_rfl) (by kernel_rfl) rfl hO (fun w => x_nk rfl) ?_
                  refine AQ.pure 2 rfl (by kernel_rfl) (by kernel_rfl) (by kernel_rfl) rfl hO (fun w => x_fa tf55_1 rfl) ?_
                  have hR113 := IMem.le.refl J111
                  refine AQ.take (S := Stab J111 [.bk bx0 55 [.int .i64 y109.2.top.kind, y109_1v1, y109_1v2, .bool y109.2.top.not, y109_1v4]]) 3 rfl (by kernel_rfl) (by kernel_rfl) (by kernel_rfl) rfl hO (Stab.of S 0 rfl hR113) (fun w hS => x_ld tsc53 rfl (hS.load 0 rfl 4 rfl)) fun hO => ?_
                  refine AQ.pure 4 rfl (by kernel_rfl) (by kernel_rfl) (by kernel_rfl) rfl hO (fun w => x_movV (v := .int .i64 y109.1) rfl) ?_
                  refine AQ.pure 5 rfl (by kernel_rfl) (by kernel_rfl) (by kernel_rfl) rfl hO (fun w => x_movV (v := .pointer (some ⟨bx0, 0, none⟩)) rfl) ?_
                  refine AQ.pure 6 rfl (by kernel_rfl) (by kernel_rfl) (by kernel_rfl) rfl hO (fun w => x_nk rfl) ?_
                  refine AQ.pure 7 rfl (by kernel_rfl) (by kernel_rfl) (by kernel_rfl) rfl hO (fun w => x_fa tf55_1 rfl) ?_
                  refine AQ.take (S := Stab J111 [.bk bx0 55 [.int .i64 y109.2.top.kind, y109_1v1, y109_1v2, .bool y109.2.top.not, y109_1v4]]) 8 rfl (by kernel_rfl) (by kernel_rfl) (by kernel_rfl) rfl hO (Stab.of S 0 rfl hR113) (fun w hS => x_ld tsc53 rfl (hS.load 0 rfl 4 rfl)) fun hO => ?_
                  refine AQ.pure 9 rfl (by kernel_rfl) (by kernel_rfl) (by kernel_rfl) rfl hO (fun w => x_lenVD (r := R_regex_step) tsl53 rfl rfl S 1 rfl y109_1h4 w) ?_
                  obtain ⟨y114, h115, H⟩ := obx H
                  refine AQ.pureE 10 rfl (by kernel_rfl) (by kernel_rfl) (by kernel_rfl) rfl hO (e_iaVD (r := R_regex_step) tsl53 rfl rfl S 1 rfl y109_1h4 rfl h115) ?_
                  rintro _ ⟨b116, cs117, cc118, rfl, hv119, hr120, hc121⟩
                  obtain ⟨y114v1, rfl, y114h1⟩ := hr120
                  refine AQ.pure 11 rfl (by kernel_rfl) (by kernel_rfl) (by kernel_rfl) rfl hO (fun w => x_fa tf59_4 rfl) ?_
                  refine AQ.pure 12 rfl (by kernel_rfl) (by kernel_rfl) (by kernel_rfl) rfl hO (fun w => x_iaA tar57 rfl rfl (by decide) (by decide)) ?_
                  refine AQ.one 13 [8, 3] [false, false] (by kernel_rfl) rfl (by kernel_rfl) ?_
                  refine U rfl rfl (o_stV (r := R_regex_step) (f := 4) (y' := (T_regex_step.mk y114.op y114.spans y114.all y114.not ((y109.2.prog.length : Int), y114.to_.2))) tone3 rfl S 1 rfl hv119 y109_1h4 h115 ⟨y114v1, rfl, y114h1⟩ hc121 rfl rfl rfl rfl ⟨y114v1, rfl, y114h1⟩ fun w a122 S h123 => ?_)
                  refine andI Hold.nil fun hO => ?_
                  refine AQ.done (by kernel_rfl) ?_
                  refine FW.seq ?_
                  refine FW.anew [(0, .pointer (some ⟨bx0, 0, none⟩)), (3, .pointer (some ⟨b1, 0, none⟩)), (8, .int .i64 y109.1)] ⟨rfl, rfl, rfl, trivial⟩ fun σ => ?_
                  refine FW.region ?_
                  refine U rfl rfl (V (x_movV (v := .pointer (some ⟨bx0, 0, none⟩)) rfl) ?_)
                  refine U rfl rfl (V (x_fa tf48_1 rfl) ?_)
                  refine U rfl rfl (V (x_ld tsc45 rfl (S.load 2 rfl 1 rfl)) ?_)
                  obtain ⟨y124, h125, H⟩ := obx H
                  refine U rfl rfl (o_ia (r := R_regex_piece) tsl45 rfl rfl x1h1 rfl h125 fun b126 o127 cs128 hr129 hc130 => ?_)
                  obtain ⟨y124v1, y124v2, rfl, y124h1, y124h2⟩ := R_regex_piece.un hr129
                  refine U rfl rfl (V (x_ldA tag48 rfl (S.loadI hc130) rfl) ?_)
                  obtain ⟨y131, hy132, H⟩ := obx H
                  refine U rfl rfl (cl fb19 (@ih_regex_Expr_compile k (by omega) (T_regex_Expr.mk y109.2.top (y109.2.prog.set y109.1.toNat (T_regex_step.mk y114.op y114.spans y114.all y114.not ((y109.2.prog.length : Int), y114.to_.2)))) y124 _ _ _ _ _ _ _ _ _ _ _ hG S y109_1h1 y109_1h2 h123 y124h1 y124h2 hy132) rfl ?_)
                  rintro _ w ⟨y131_0v1, y131_0v2, y131_0v4, cy131_0_4, J133, hJ134, rfl, y131_0h1, y131_0h2, y131_0h4, S⟩
                  have x1h1 := x1h1.mono hJ134
                  have hc130 := hc130.mono hJ134
                  have y124h1 := y124h1.mono hJ134
                  have y124h2 := y124h2.mono hJ134
                  have x1h2 := x1h2.mono hJ134
                  have hI := hI.trans hJ134
                  have hG := hG.mono hJ134
                  refine FW.seq ?_
                  refine FW.seq ?_
                  refine FW.region ?_
                  refine U rfl rfl (V (x_fa tf48_0 rfl) ?_)
                  refine U rfl rfl (V (x_ld tsc3 rfl (S.load 2 rfl 0 rfl)) ?_)
                  refine U rfl rfl (V (x_bin rfl rfl rfl) ?_)
                  obtain ⟨o149, H, HO150⟩ := obx H
                  have hL151 := IMem.le.refl J133
                  refine FW.cutN (fun σ w => ∃ (n136 : Int) (l137 : (List T_regex_piece)) (l140 : (List T_regex_span)) (b143 : Bool) (l144 : (List T_regex_step)) (v138 : Value) (v141 : Value) (v145 : Value) (a146 : List Value) (J135 : IMem), (n136, l137, l140, b143, l144) = o149 ∧ Has σ [(0, .pointer (some ⟨bx0, 0, none⟩)), (8, .int .i64 y109.1)] ∧ J133.le J135 ∧ Own J135 w (.bk bx0 55 [.int .i64 n136, v138, v141, .bool b143, v145] :: .bk b1 48 [.int .i64 x1.kind, x1v1, x1v2, .bool x1.not] :: .av v145 59 6 a146 :: F) ∧ SlR R_regex_piece J135 v138 l137 ∧ SlR R_regex_span J135 v141 l140 ∧ Flat R_regex_step J135 a146 l144) ?_ ?_
                  ·
                    by_cases cc152 : x1.kind = 7
                    · rw [if_pos cc152] at H
                      refine FW.condT rfl (eqT cc152) ?_
                      refine FW.seq ?_
                      refine FW.anew [(0, .pointer (some ⟨bx0, 0, none⟩)), (8, .int .i64 y109.1)] ⟨rfl, rfl, trivial⟩ fun σ => ?_
                      refine FW.region ?_
                      refine U rfl rfl (V (x_movV (v := .pointer (some ⟨bx0, 0, none⟩)) rfl) ?_)
                      refine U rfl rfl (V (x_bld tz59 tpl59 rfl (.one rfl PC.nil) rfl) ?_)
                      obtain ⟨y153, hy154, H⟩ := obx H
                      refine U rfl rfl (cl fb31 (@regex_Expr_put.ok k y131 (T_regex_step.mk 1 [] false false (0, 0)) _ _ _ _ _ _ _ _ _ _ hG S y131_0h1 y131_0h2 y131_0h4 (SlR.nil _ _) hy154) rfl ?_)
                      rintro _ w ⟨y153_1v1, y153_1v2, y153_1v4, cy153_1_4, J155, hJ156, rfl, y153_1h1, y153_1h2, y153_1h4, S⟩
                      have x1h1 := x1h1.mono hJ156
                      have x1h2 := x1h2.mono hJ156
                      have hI := hI.trans hJ156
                      have hL151 := hL151.trans hJ156
                      have hG := hG.mono hJ156
                      refine U rfl rfl (V (x_asgV (v := .int .i64 y153.1) rfl) ?_)
                      refine FW.region ?_
                      refine U rfl rfl (V (x_movV (v := .pointer (some ⟨bx0, 0, none⟩)) rfl) ?_)
                      refine U rfl rfl (V (x_nk rfl) ?_)
                      refine U rfl rfl (V (x_fa tf55_1 rfl) ?_)
                      refine U rfl rfl (V (x_ld tsc53 rfl (S.load 0 rfl 4 rfl)) ?_)
                      refine U rfl rfl (V (x_movV (v := .int .i64 y153.1) rfl) ?_)
                      refine U rfl rfl (V (x_movV (v := .int .i64 y109.1) rfl) ?_)
                      refine U rfl rfl (V (x_movV (v := .int .i64 y109.1) rfl) ?_)
                      refine U rfl rfl (V (x_bldA tar57 tz57 rfl (.one rfl (.one rfl PC.nil)) rfl) ?_)
                      obtain ⟨y157, h158, H⟩ := obx H
                      refine U rfl rfl (o_iaV (r := R_regex_step) tsl53 rfl rfl S 1 rfl y153_1h4 rfl h158 fun b159 cs160 cc161 hv162 hr163 hc164 => ?_)
                      obtain ⟨y157v1, rfl, y157h1⟩ := hr163
                      refine U rfl rfl (V (x_fa tf59_4 rfl) ?_)
                      refine U rfl rfl (o_stVA (r := R_regex_step) (f := 4) (y' := (T_regex_step.mk y157.op y157.spans y157.all y157.not (y109.1, y109.1))) tag57 rfl S 1 rfl hv162 y153_1h4 h158 ⟨y157v1, rfl, y157h1⟩ hc164 rfl rfl rfl rfl rfl (c1 rfl (c1 rfl c0)) ⟨y157v1, rfl, y157h1⟩ fun w a165 S h166 => ?_)
                      exact ⟨y153.2.top.kind, y153.2.top.parts, y153.2.top.spans, y153.2.top.not, (y153.2.prog.set y153.1.toNat (T_regex_step.mk y157.op y157.spans y157.all y157.not (y109.1, y109.1))), y153_1v1, y153_1v2, y153_1v4, a165, J155, (Option.some.inj H), ⟨rfl, rfl, trivial⟩, hL151, (S.sel 3 [0, 2, 1] rfl), y153_1h1, y153_1h2, h166⟩
                    · rw [if_neg cc152] at H
                      refine FW.condF rfl (eqF cc152) ?_
                      refine FW.skip ?_
                      exact ⟨y131.top.kind, y131.top.parts, y131.top.spans, y131.top.not, y131.prog, y131_0v1, y131_0v2, y131_0v4, cy131_0_4, J133, (Option.some.inj H), ⟨rfl, rfl, trivial⟩, hL151, (S.sel 3 [0, 2, 1] rfl), y131_0h1, y131_0h2, y131_0h4⟩
                  · rintro σ w ⟨n136, l137, l140, b143, l144, v138, v141, v145, a146, J135, ho, hσ, hL151, S, h139, h142, h147⟩
                    subst ho
                    have H := HO150
                    try dsimp only at H
                    have x1h1 := x1h1.mono hL151
                    have x1h2 := x1h2.mono hL151
                    have hI := hI.trans hL151
                    have hG := hG.mono hL151
                    rw [hσ.eq]
                    have S := S.drew
                    refine FW.regionD mixed ?_
                    have hO := Hold.nil (w := { w with drawn := w.drawn + 1 })
                    refine AQ.pure 0 rfl (by kernel_rfl) (by kernel_rfl) (by kernel_rfl) rfl hO (fun w => x_movV (v := .pointer (some ⟨bx0, 0, none⟩)) rfl) ?_
                    refine AQ.pure 1 rfl (by kernel_rfl) (by kernel_rfl) (by kernel_rfl) rfl hO (fun w => x_nk rfl) ?_
                    refine AQ.pure 2 rfl (by kernel_rfl) (by kernel_rfl) (by kernel_rfl) rfl hO (fun w => x_fa tf55_1 rfl) ?_
                    have hR167 := IMem.le.refl J135
                    refine AQ.take (S := Stab J135 [.bk bx0 55 [.int .i64 n136, v138, v141, .bool b143, v145]]) 3 rfl (by kernel_rfl) (by kernel_rfl) (by kernel_rfl) rfl hO (Stab.of S 0 rfl hR167) (fun w hS => x_ld tsc53 rfl (hS.load 0 rfl 4 rfl)) fun hO => ?_
                    refine AQ.pure 4 rfl (by kernel_rfl) (by kernel_rfl) (by kernel_rfl) rfl hO (fun w => x_movV (v := .int .i64 y109.1) rfl) ?_
                    refine AQ.pure 5 rfl (by kernel_rfl) (by kernel_rfl) (by kernel_rfl) rfl hO (fun w => x_movV (v := .pointer (some ⟨bx0, 0, none⟩)) rfl) ?_
                    refine AQ.pure 6 rfl (by kernel_rfl) (by kernel_rfl) (by kernel_rfl) rfl hO (fun w => x_nk rfl) ?_
                    refine AQ.pure 7 rfl (by kernel_rfl) (by kernel_rfl) (by kernel_rfl) rfl hO (fun w => x_fa tf55_1 rfl) ?_
                    refine AQ.take (S := Stab J135 [.bk bx0 55 [.int .i64 n136, v138, v141, .bool b143, v145]]) 8 rfl (by kernel_rfl) (by kernel_rfl) (by kernel_rfl) rfl hO (Stab.of S 0 rfl hR167) (fun w hS => x_ld tsc53 rfl (hS.load 0 rfl 4 rfl)) fun hO => ?_
                    refine AQ.pure 9 rfl (by kernel_rfl) (by kernel_rfl) (by kernel_rfl) rfl hO (fun w => x_lenVD (r := R_regex_step) tsl53 rfl rfl S 2 rfl h147 w) ?_
                    obtain ⟨y168, h169, H⟩ := obx H
                    refine AQ.pureE 10 rfl (by kernel_rfl) (by kernel_rfl) (by kernel_rfl) rfl hO (e_iaVD (r := R_regex_step) tsl53 rfl rfl S 2 rfl h147 rfl h169) ?_
                    rintro _ ⟨b170, cs171, cc172, rfl, hv173, hr174, hc175⟩
                    obtain ⟨y168v1, rfl, y168h1⟩ := hr174
                    refine AQ.pure 11 rfl (by kernel_rfl) (by kernel_rfl) (by kernel_rfl) rfl hO (fun w => x_fa tf59_4 rfl) ?_
                    refine AQ.pure 12 rfl (by kernel_rfl) (by kernel_rfl) (by kernel_rfl) rfl hO (fun w => x_iaA tar57 rfl rfl (by decide) (by decide)) ?_
                    refine AQ.one 13 [8, 3] [false, false] (by kernel_rfl) rfl (by kernel_rfl) ?_
                    refine U rfl rfl (o_stV (r := R_regex_step) (f := 5) (y' := (T_regex_step.mk y168.op y168.spans y168.all y168.not (y168.to_.1, (l144.length : Int)))) tone3 rfl S 2 rfl hv173 h147 h169 ⟨y168v1, rfl, y168h1⟩ hc175 rfl rfl rfl rfl ⟨y168v1, rfl, y168h1⟩ fun w a176 S h177 => ?_)
                    refine andI Hold.nil fun hO => ?_
                    refine AQ.done (by kernel_rfl) ?_
                    obtain rfl := Option.some.inj H
                    exact ⟨_, rfl, ⟨v138, v141, v145, a176, J135, hI, rfl, h139, h142, h177, (S.sel 3 [0, 2] rfl)⟩⟩
theorem regex_Expr_compile.zero : regex_Expr_compile.C 0 := by
  intro _ _ _ _ _ _ _ _ _ _ _ _ _ _ _ _ _ _ _ _ H; cases H
theorem regex_Expr_choices.step (k : Nat) (ih_regex_Expr_compile : ∀ m, m ≤ k → regex_Expr_compile.C m) : regex_Expr_choices.C (k + 1) := by
  intro x0 x1 x0v1 x0v2 x0v4 cx0_4 vx1 bx0 F I w r hG S x0h1 x0h2 x0h4 hx1 H
  have hI := IMem.le.refl I
  rw [regex_Expr_choices.f] at H
  refine Calls.ofFW (args := [.pointer (some ⟨bx0, 0, none⟩), vx1]) Tryd.func30 rfl rfl ?_
  refine FW.seq ?_
  refine FW.region ?_
  refine U rfl rfl (V (x_asgV (v := (.slice none 0 0)) rfl) ?_)
  refine FW.seq ?_
  refine FW.seq ?_
  refine FW.region ?_
  refine U rfl rfl (V (x_movV (v := vx1) rfl) ?_)
  refine U rfl rfl (V (x_lenD (r := R_regex_piece) tsl45 hx1) ?_)
  refine U rfl rfl (V (x_movV (v := .int .i64 0) rfl) ?_)
  refine FW.block ?_
  have S := S.nil_tv 3 1
  obtain ⟨o22, hl24, HO23⟩ := obx H
  refine FW.cutX 0 (fun σ w => ∃ (l26 : (List Int)) (n29 : Int) (l30 : (List T_regex_piece)) (l33 : (List T_regex_span)) (b36 : Bool) (l37 : (List T_regex_step)) (v27 : Value) (v31 : Value) (v34 : Value) (v38 : Value) (a39 : List Value) (J25 : IMem), (l26, n29, l30, l33, b36, l37) = o22 ∧ Has σ [(0, .pointer (some ⟨bx0, 0, none⟩)), (4, v27)] ∧ I.le J25 ∧ Own J25 w (.tv v27 3 1 :: .bk bx0 55 [.int .i64 n29, v31, v34, .bool b36, v38] :: .av v38 59 6 a39 :: F) ∧ SlR (tInt' .i64) J25 v27 l26 ∧ SlR R_regex_piece J25 v31 l30 ∧ SlR R_regex_span J25 v34 l33 ∧ Flat R_regex_step J25 a39 l37) ?_ ?_
  ·
    refine FW.loop k (FL.ind (fun q σ w => ∃ (l3 : (List Int)) (n6 : Int) (n7 : Int) (l8 : (List T_regex_piece)) (l11 : (List T_regex_span)) (b14 : Bool) (l15 : (List T_regex_step)) (v4 : Value) (v9 : Value) (v12 : Value) (v16 : Value) (a17 : List Value) (J2 : IMem), regex_Expr_choices.l0 q x1 l3 n6 n7 l8 l11 b14 l15 = some o22 ∧ q ≤ k ∧ Has σ [(0, .pointer (some ⟨bx0, 0, none⟩)), (1, vx1), (4, v4), (10, vx1), (11, .int .i64 (x1.length : Int)), (12, .int .i64 n6)] ∧ I.le J2 ∧ Own J2 w (.tv v4 3 1 :: .bk bx0 55 [.int .i64 n7, v9, v12, .bool b14, v16] :: .av v16 59 6 a17 :: F) ∧ SlR (tInt' .i64) J2 v4 l3 ∧ SlR R_regex_piece J2 v9 l8 ∧ SlR R_regex_span J2 v12 l11 ∧ Flat R_regex_step J2 a17 l15) ?_ ?_ k k _ _ (Nat.le_refl _) ⟨[], 0, x0.top.kind, x0.top.parts, x0.top.spans, x0.top.not, x0.prog, (.slice none 0 0), x0v1, x0v2, x0v4, cx0_4, I, hl24, Nat.le_refl _, ⟨rfl, rfl, rfl, rfl, rfl, rfl, trivial⟩, (IMem.le.refl _), S, (SlR.nil _ _), x0h1, x0h2, x0h4⟩)
    · rintro σ w ⟨l3, n6, n7, l8, l11, b14, l15, v4, v9, v12, v16, a17, J2, H, _⟩; cases H
    · rintro q20 σ w ⟨l3, n6, n7, l8, l11, b14, l15, v4, v9, v12, v16, a17, J2, H, hq42, hσ, hL21, S, h5, h10, h13, h18⟩
      have hx1 := hx1.mono hL21
      have hI := hI.trans hL21
      have hG := hG.mono hL21
      rw [hσ.eq]
      rw [regex_Expr_choices.l0] at H
      refine FW.seq ?_
      refine FW.region ?_
      refine U rfl rfl (V (x_bin rfl rfl rfl) ?_)
      refine FW.seq ?_
      by_cases cc43 : n6 < (x1.length : Int)
      · rw [if_pos cc43] at H
        refine FW.condT rfl (deT cc43) ?_
        refine FW.skip ?_
        refine FW.seq ?_
        refine FW.block ?_
        refine FW.seq ?_
        refine FW.region ?_
        refine U rfl rfl (V (x_movV (v := .int .i64 n6) rfl) ?_)
        obtain ⟨y44, h45, H⟩ := obx H
        refine U rfl rfl (o_ia (r := R_regex_piece) tsl45 rfl rfl hx1 rfl h45 fun b46 o47 cs48 hr49 hc50 => ?_)
        obtain ⟨y44v1, y44v2, rfl, y44h1, y44h2⟩ := R_regex_piece.un hr49
        refine U rfl rfl (V (x_ldA tag48 rfl (S.loadI hc50) rfl) ?_)
        refine U rfl rfl (o_all tz48 S fun b51 w S => ?_)
        refine U rfl rfl (V (x_asgV (v := .int .i64 n6) rfl) ?_)
        refine U rfl rfl (o_stA tag48 S 0 rfl rfl rfl rfl (c1 rfl (c1 y44h1.one (c1 y44h2.one (c1 rfl c0)))) rfl fun w S => ?_)
        refine FW.seq ?_
        refine FW.seq ?_
        refine FW.anew [(0, .pointer (some ⟨bx0, 0, none⟩)), (1, vx1), (4, v4), (5, .int .i64 n6), (6, .pointer (some ⟨b51, 0, none⟩)), (10, vx1), (11, .int .i64 (x1.length : Int)), (12, .int .i64 n6)] ⟨rfl, rfl, rfl, rfl, rfl, rfl, rfl, rfl, trivial⟩ fun σ => ?_
        refine FW.region ?_
        refine U rfl rfl (V (x_movV (v := .int .i64 n6) rfl) ?_)
        refine U rfl rfl (V (x_movV (v := vx1) rfl) ?_)
        refine U rfl rfl (V (x_lenD (r := R_regex_piece) tsl45 hx1) ?_)
        refine U rfl rfl (V (x_bin rfl rfl rfl) ?_)
        refine U rfl rfl (V (x_bin rfl rfl rfl) ?_)
        by_cases cc52 : n6 = (i64 ((x1.length : Int) - 1))
        · rw [if_pos cc52] at H
          refine FW.condT rfl (eqT cc52) ?_
          refine FW.seq ?_
          refine FW.region ?_
          refine U rfl rfl (V (x_movV (v := .pointer (some ⟨bx0, 0, none⟩)) rfl) ?_)
          refine U rfl rfl (V (x_ldA tag48 rfl (S.loadW 0 rfl) rfl) ?_)
          obtain ⟨y53, hy54, H⟩ := obx H
          refine U rfl rfl (cl fb19 (@ih_regex_Expr_compile q20 (by omega) (T_regex_Expr.mk (T_regex_piece.mk n7 l8 l11 b14) l15) y44 _ _ _ _ _ _ _ _ _ _ _ hG (S.sel 4 [2, 3, 0, 1] rfl) h10 h13 h18 y44h1 y44h2 hy54) rfl ?_)
          rintro _ w ⟨y53_0v1, y53_0v2, y53_0v4, cy53_0_4, J55, hJ56, rfl, y53_0h1, y53_0h2, y53_0h4, S⟩
          have h5 := h5.mono hJ56
          have y44h1 := y44h1.mono hJ56
          have y44h2 := y44h2.mono hJ56
          have hI := hI.trans hJ56
          have hL21 := hL21.trans hJ56
          have hG := hG.mono hJ56
          refine FW.exit ?_
          exact ⟨l3, y53.top.kind, y53.top.parts, y53.top.spans, y53.top.not, y53.prog, v4, y53_0v1, y53_0v2, y53_0v4, cy53_0_4, J55, (Option.some.inj H), ⟨rfl, rfl, trivial⟩, hL21, (S.sel 4 [3, 0, 1] rfl), h5, y53_0h1, y53_0h2, y53_0h4⟩
        · rw [if_neg cc52] at H
          refine FW.condF rfl (eqF cc52) ?_
          refine FW.skip ?_
          refine FW.seq ?_
          refine FW.region ?_
          refine U rfl rfl (V (x_movV (v := .pointer (some ⟨bx0, 0, none⟩)) rfl) ?_)
          refine U rfl rfl (V (x_bld tz59 tpl59 rfl (.one rfl PC.nil) rfl) ?_)
          obtain ⟨y57, hy58, H⟩ := obx H
          refine U rfl rfl (cl fb31 (@regex_Expr_put.ok q20 (T_regex_Expr.mk (T_regex_piece.mk n7 l8 l11 b14) l15) (T_regex_step.mk 1 [] false false (0, 0)) _ _ _ _ _ _ _ _ _ _ hG (S.sel 4 [2, 3, 0, 1] rfl) h10 h13 h18 (SlR.nil _ _) hy58) rfl ?_)
          rintro _ w ⟨y57_1v1, y57_1v2, y57_1v4, cy57_1_4, J59, hJ60, rfl, y57_1h1, y57_1h2, y57_1h4, S⟩
          have hx1 := hx1.mono hJ60
          have h5 := h5.mono hJ60
          have y44h1 := y44h1.mono hJ60
          have y44h2 := y44h2.mono hJ60
          have hI := hI.trans hJ60
          have hL21 := hL21.trans hJ60
          have hG := hG.mono hJ60
          refine U rfl rfl (V (x_asgV (v := .int .i64 y57.1) rfl) ?_)
          refine FW.seq ?_
          refine FW.anew [(0, .pointer (some ⟨bx0, 0, none⟩)), (1, vx1), (4, v4), (6, .pointer (some ⟨b51, 0, none⟩)), (7, .int .i64 y57.1), (10, vx1), (11, .int .i64 (x1.length : Int)), (12, .int .i64 n6)] ⟨rfl, rfl, rfl, rfl, rfl, rfl, rfl, rfl, trivial⟩ fun σ => ?_
          have S := S.drew
          refine FW.regionD mixed ?_
          have hO := Hold.nil (w := { w with drawn := w.drawn + 1 })
          refine AQ.pure 0 rfl (by kernel_rfl) (by kernel_rfl) (by kernel_rfl) rfl hO (fun w => x_movV (v := .pointer (some ⟨bx0, 0, none⟩)) rfl) ?_
          refine AQ.pure 1 rfl (by kernel_rfl) (by kernel_rfl) (by kernel_rfl) rfl hO (fun w => x_nk rfl) ?_
          refine AQ.pure 2 rfl (by kernel_rfl) (by kernel_rfl) (by kernel_rfl) rfl hO (fun w => x_fa tf55_1 rfl) ?_
          have hR61 := IMem.le.refl J59
          refine AQ.take (S := Stab J59 [.bk bx0 55 [.int .i64 y57.2.top.kind, y57_1v1, y57_1v2, .bool y57.2.top.not, y57_1v4]]) 3 rfl (by kernel_rfl) (by kernel_rfl) (by kernel_rfl) rfl hO (Stab.of S 0 rfl hR61) (fun w hS => x_ld tsc53 rfl (hS.load 0 rfl 4 rfl)) fun hO => ?_
          refine AQ.pure 4 rfl (by kernel_rfl) (by kernel_rfl) (by kernel_rfl) rfl hO (fun w => x_movV (v := .int .i64 y57.1) rfl) ?_
          refine AQ.pure 5 rfl (by kernel_rfl) (by kernel_rfl) (by kernel_rfl) rfl hO (fun w => x_movV (v := .pointer (some ⟨bx0, 0, none⟩)) rfl) ?_
          refine AQ.pure 6 rfl (by kernel_rfl) (by kernel_rfl) (by kernel_rfl) rfl hO (fun w => x_nk rfl) ?_
          refine AQ.pure 7 rfl (by kernel_rfl) (by kernel_rfl) (by kernel_rfl) rfl hO (fun w => x_fa tf55_1 rfl) ?_
          refine AQ.take (S := Stab J59 [.bk bx0 55 [.int .i64 y57.2.top.kind, y57_1v1, y57_1v2, .bool y57.2.top.not, y57_1v4]]) 8 rfl (by kernel_rfl) (by kernel_rfl) (by kernel_rfl) rfl hO (Stab.of S 0 rfl hR61) (fun w hS => x_ld tsc53 rfl (hS.load 0 rfl 4 rfl)) fun hO => ?_
          refine AQ.pure 9 rfl (by kernel_rfl) (by kernel_rfl) (by kernel_rfl) rfl hO (fun w => x_lenVD (r := R_regex_step) tsl53 rfl rfl S 1 rfl y57_1h4 w) ?_
          obtain ⟨y62, h63, H⟩ := obx H
          refine AQ.pureE 10 rfl (by kernel_rfl) (by kernel_rfl) (by kernel_rfl) rfl hO (e_iaVD (r := R_regex_step) tsl53 rfl rfl S 1 rfl y57_1h4 rfl h63) ?_
          rintro _ ⟨b64, cs65, cc66, rfl, hv67, hr68, hc69⟩
          obtain ⟨y62v1, rfl, y62h1⟩ := hr68
          refine AQ.pure 11 rfl (by kernel_rfl) (by kernel_rfl) (by kernel_rfl) rfl hO (fun w => x_fa tf59_4 rfl) ?_
          refine AQ.pure 12 rfl (by kernel_rfl) (by kernel_rfl) (by kernel_rfl) rfl hO (fun w => x_iaA tar57 rfl rfl (by decide) (by decide)) ?_
          refine AQ.one 13 [8, 3] [false, false] (by kernel_rfl) rfl (by kernel_rfl) ?_
          refine U rfl rfl (o_stV (r := R_regex_step) (f := 4) (y' := (T_regex_step.mk y62.op y62.spans y62.all y62.not ((y57.2.prog.length : Int), y62.to_.2))) tone3 rfl S 1 rfl hv67 y57_1h4 h63 ⟨y62v1, rfl, y62h1⟩ hc69 rfl rfl rfl rfl ⟨y62v1, rfl, y62h1⟩ fun w a70 S h71 => ?_)
          refine andI Hold.nil fun hO => ?_
          refine AQ.done (by kernel_rfl) ?_
          refine FW.seq ?_
          refine FW.anew [(0, .pointer (some ⟨bx0, 0, none⟩)), (1, vx1), (4, v4), (6, .pointer (some ⟨b51, 0, none⟩)), (7, .int .i64 y57.1), (10, vx1), (11, .int .i64 (x1.length : Int)), (12, .int .i64 n6)] ⟨rfl, rfl, rfl, rfl, rfl, rfl, rfl, rfl, trivial⟩ fun σ => ?_
          refine FW.region ?_
          refine U rfl rfl (V (x_movV (v := .pointer (some ⟨bx0, 0, none⟩)) rfl) ?_)
          refine U rfl rfl (V (x_ldA tag48 rfl (S.loadW 2 rfl) rfl) ?_)
          obtain ⟨y72, hy73, H⟩ := obx H
          refine U rfl rfl (cl fb19 (@ih_regex_Expr_compile q20 (by omega) (T_regex_Expr.mk y57.2.top (y57.2.prog.set y57.1.toNat (T_regex_step.mk y62.op y62.spans y62.all y62.not ((y57.2.prog.length : Int), y62.to_.2)))) y44 _ _ _ _ _ _ _ _ _ _ _ hG S y57_1h1 y57_1h2 h71 y44h1 y44h2 hy73) rfl ?_)
          rintro _ w ⟨y72_0v1, y72_0v2, y72_0v4, cy72_0_4, J74, hJ75, rfl, y72_0h1, y72_0h2, y72_0h4, S⟩
          have hx1 := hx1.mono hJ75
          have h5 := h5.mono hJ75
          have y44h1 := y44h1.mono hJ75
          have y44h2 := y44h2.mono hJ75
          have hI := hI.trans hJ75
          have hL21 := hL21.trans hJ75
          have hG := hG.mono hJ75
          refine FW.seq ?_
          refine FW.region ?_
          refine U rfl rfl (V (x_movV (v := v4) rfl) ?_)
          refine U rfl rfl (V (x_movV (v := .pointer (some ⟨bx0, 0, none⟩)) rfl) ?_)
          refine U rfl rfl (V (x_bld tz59 tpl59 rfl (.one rfl PC.nil) rfl) ?_)
          obtain ⟨y76, hy77, H⟩ := obx H
          refine U rfl rfl (cl fb31 (@regex_Expr_put.ok q20 y72 (T_regex_step.mk 1 [] false false (0, 0)) _ _ _ _ _ _ _ _ _ _ hG S y72_0h1 y72_0h2 y72_0h4 (SlR.nil _ _) hy77) rfl ?_)
          rintro _ w ⟨y76_1v1, y76_1v2, y76_1v4, cy76_1_4, J78, hJ79, rfl, y76_1h1, y76_1h2, y76_1h4, S⟩
          have hx1 := hx1.mono hJ79
          have h5 := h5.mono hJ79
          have y44h1 := y44h1.mono hJ79
          have y44h2 := y44h2.mono hJ79
          have hI := hI.trans hJ79
          have hL21 := hL21.trans hJ79
          have hG := hG.mono hJ79
          refine U rfl rfl (o_bsl tsl75 tz3 rfl rfl rfl rfl (.one rfl PC.nil) rfl S fun b80 w S => ?_)
          obtain ⟨J81, hJ83, S, h82⟩ := S.freeze (r := (tInt' .i64)) (l := [y76.1]) 0 rfl ⟨[.int .i64 y76.1], _, rfl, rfl, rfl⟩ rfl rfl
          have hx1 := hx1.mono hJ83
          have h5 := h5.mono hJ83
          have y76_1h1 := y76_1h1.mono hJ83
          have y76_1h2 := y76_1h2.mono hJ83
          have y76_1h4 := y76_1h4.mono hJ83
          have y44h1 := y44h1.mono hJ83
          have y44h2 := y44h2.mono hJ83
          have hI := hI.trans hJ83
          have hL21 := hL21.trans hJ83
          have hG := hG.mono hJ83
          obtain ⟨l84, h86, H⟩ := obx H
          refine U rfl rfl (o_appD (r := (tInt' .i64)) tsl75 rfl tz3 rfl rfl S 4 rfl rfl h5 h82 h86 fun v85 w J88 hJ89 S h87 => ?_)
          have hx1 := hx1.mono hJ89
          have h5 := h5.mono hJ89
          have h82 := h82.mono hJ89
          have y76_1h1 := y76_1h1.mono hJ89
          have y76_1h2 := y76_1h2.mono hJ89
          have y76_1h4 := y76_1h4.mono hJ89
          have y44h1 := y44h1.mono hJ89
          have y44h2 := y44h2.mono hJ89
          have hI := hI.trans hJ89
          have hL21 := hL21.trans hJ89
          have hG := hG.mono hJ89
          refine U rfl rfl (V (x_asgV (v := v85) rfl) ?_)
          refine FW.anew [(0, .pointer (some ⟨bx0, 0, none⟩)), (1, vx1), (4, v85), (7, .int .i64 y57.1), (10, vx1), (11, .int .i64 (x1.length : Int)), (12, .int .i64 n6)] ⟨rfl, rfl, rfl, rfl, rfl, rfl, rfl, trivial⟩ fun σ => ?_
          have S := S.drew
          refine FW.regionD mixed ?_
          have hO := Hold.nil (w := { w with drawn := w.drawn + 1 })
          refine AQ.pure 0 rfl (by kernel_rfl) (by kernel_rfl) (by kernel_rfl) rfl hO (fun w => x_movV (v := .pointer (some ⟨bx0, 0, none⟩)) rfl) ?_
          refine AQ.pure 1 rfl (by kernel_rfl) (by kernel_rfl) (by kernel_rfl) rfl hO (fun w => x_nk rfl) ?_
          refine AQ.pure 2 rfl (by kernel_rfl) (by kernel_rfl) (by kernel_rfl) rfl hO (fun w => x_fa tf55_1 rfl) ?_
          have hR90 := IMem.le.refl J88
          refine AQ.take (S := Stab J88 [.bk bx0 55 [.int .i64 y76.2.top.kind, y76_1v1, y76_1v2, .bool y76.2.top.not, y76_1v4]]) 3 rfl (by kernel_rfl) (by kernel_rfl) (by kernel_rfl) rfl hO (Stab.of S 1 rfl hR90) (fun w hS => x_ld tsc53 rfl (hS.load 0 rfl 4 rfl)) fun hO => ?_
          refine AQ.pure 4 rfl (by kernel_rfl) (by kernel_rfl) (by kernel_rfl) rfl hO (fun w => x_movV (v := .int .i64 y57.1) rfl) ?_
          refine AQ.pure 5 rfl (by kernel_rfl) (by kernel_rfl) (by kernel_rfl) rfl hO (fun w => x_movV (v := .pointer (some ⟨bx0, 0, none⟩)) rfl) ?_
          refine AQ.pure 6 rfl (by kernel_rfl) (by kernel_rfl) (by kernel_rfl) rfl hO (fun w => x_nk rfl) ?_
          refine AQ.pure 7 rfl (by kernel_rfl) (by kernel_rfl) (by kernel_rfl) rfl hO (fun w => x_fa tf55_1 rfl) ?_
          refine AQ.take (S := Stab J88 [.bk bx0 55 [.int .i64 y76.2.top.kind, y76_1v1, y76_1v2, .bool y76.2.top.not, y76_1v4]]) 8 rfl (by kernel_rfl) (by kernel_rfl) (by kernel_rfl) rfl hO (Stab.of S 1 rfl hR90) (fun w hS => x_ld tsc53 rfl (hS.load 0 rfl 4 rfl)) fun hO => ?_
          refine AQ.pure 9 rfl (by kernel_rfl) (by kernel_rfl) (by kernel_rfl) rfl hO (fun w => x_lenVD (r := R_regex_step) tsl53 rfl rfl S 2 rfl y76_1h4 w) ?_
          obtain ⟨y91, h92, H⟩ := obx H
          refine AQ.pureE 10 rfl (by kernel_rfl) (by kernel_rfl) (by kernel_rfl) rfl hO (e_iaVD (r := R_regex_step) tsl53 rfl rfl S 2 rfl y76_1h4 rfl h92) ?_
          rintro _ ⟨b93, cs94, cc95, rfl, hv96, hr97, hc98⟩
          obtain ⟨y91v1, rfl, y91h1⟩ := hr97
          refine AQ.pure 11 rfl (by kernel_rfl) (by kernel_rfl) (by kernel_rfl) rfl hO (fun w => x_fa tf59_4 rfl) ?_
          refine AQ.pure 12 rfl (by kernel_rfl) (by kernel_rfl) (by kernel_rfl) rfl hO (fun w => x_iaA tar57 rfl rfl (by decide) (by decide)) ?_
          refine AQ.one 13 [8, 3] [false, false] (by kernel_rfl) rfl (by kernel_rfl) ?_
          refine U rfl rfl (o_stV (r := R_regex_step) (f := 5) (y' := (T_regex_step.mk y91.op y91.spans y91.all y91.not (y91.to_.1, (y76.2.prog.length : Int)))) tone3 rfl S 2 rfl hv96 y76_1h4 h92 ⟨y91v1, rfl, y91h1⟩ hc98 rfl rfl rfl rfl ⟨y91v1, rfl, y91h1⟩ fun w a99 S h100 => ?_)
          refine andI Hold.nil fun hO => ?_
          refine AQ.done (by kernel_rfl) ?_
          refine FW.anew [(0, .pointer (some ⟨bx0, 0, none⟩)), (1, vx1), (4, v85), (10, vx1), (11, .int .i64 (x1.length : Int)), (12, .int .i64 n6)] ⟨rfl, rfl, rfl, rfl, rfl, rfl, trivial⟩ fun σ => ?_
          refine FW.region ?_
          refine U rfl rfl (V (x_bin rfl rfl rfl) ?_)
          refine U rfl rfl (V (x_movV (v := .int .i64 (i64 (n6 + 1))) rfl) ?_)
          exact ⟨q20, Nat.le_refl _, l84, (i64 (n6 + 1)), y76.2.top.kind, y76.2.top.parts, y76.2.top.spans, y76.2.top.not, (y76.2.prog.set y57.1.toNat (T_regex_step.mk y91.op y91.spans y91.all y91.not (y91.to_.1, (y76.2.prog.length : Int)))), v85, y76_1v1, y76_1v2, y76_1v4, a99, J88, H, (Nat.le_of_succ_le hq42), ⟨rfl, rfl, rfl, rfl, rfl, rfl, trivial⟩, hL21, (S.sel 5 [4, 1, 2] rfl), h87, y76_1h1, y76_1h2, h100⟩
      · rw [if_neg cc43] at H
        refine FW.condF rfl (deF cc43) ?_
        refine FW.exit ?_
        exact ⟨l3, n7, l8, l11, b14, l15, v4, v9, v12, v16, a17, J2, (Option.some.inj H), ⟨rfl, rfl, trivial⟩, hL21, S, h5, h10, h13, h18⟩
  · rintro σ w ⟨l26, n29, l30, l33, b36, l37, v27, v31, v34, v38, a39, J25, ho, hσ, hL21, S, h28, h32, h35, h40⟩
    subst ho
    have H := HO23
    try dsimp only at H
    have hI := hI.trans hL21
    have hG := hG.mono hL21
    rw [hσ.eq]
    refine FW.seq ?_
    refine FW.region ?_
    refine U rfl rfl (V (x_movV (v := v27) rfl) ?_)
    refine U rfl rfl (V (x_lenD (r := (tInt' .i64)) tsl75 h28) ?_)
    refine U rfl rfl (V (x_movV (v := .int .i64 0) rfl) ?_)
    refine FW.block ?_
    obtain ⟨o110, hl112, HO111⟩ := obx H
    refine FW.cutX 2 (fun σ w => ∃ (l114 : (List T_regex_step)) (v115 : Value) (a116 : List Value) (J113 : IMem), l114 = o110 ∧ Has σ [] ∧ J25.le J113 ∧ Own J113 w (.bk bx0 55 [.int .i64 n29, v31, v34, .bool b36, v115] :: .av v115 59 6 a116 :: F) ∧ Flat R_regex_step J113 a116 l114) ?_ ?_
    ·
      refine FW.loop k (FL.ind (fun q σ w => ∃ (n102 : Int) (l103 : (List T_regex_step)) (v104 : Value) (a105 : List Value) (J101 : IMem), regex_Expr_choices.l1 q l26 n102 l103 = some o110 ∧ q ≤ k ∧ Has σ [(0, .pointer (some ⟨bx0, 0, none⟩)), (64, v27), (65, .int .i64 (l26.length : Int)), (66, .int .i64 n102)] ∧ J25.le J101 ∧ Own J101 w (.tv v27 3 1 :: .bk bx0 55 [.int .i64 n29, v31, v34, .bool b36, v104] :: .av v104 59 6 a105 :: F) ∧ Flat R_regex_step J101 a105 l103) ?_ ?_ k k _ _ (Nat.le_refl _) ⟨0, l37, v38, a39, J25, hl112, Nat.le_refl _, ⟨rfl, rfl, rfl, rfl, trivial⟩, (IMem.le.refl _), S, h40⟩)
      · rintro σ w ⟨n102, l103, v104, a105, J101, H, _⟩; cases H
      · rintro q108 σ w ⟨n102, l103, v104, a105, J101, H, hq119, hσ, hL109, S, h106⟩
        have h28 := h28.mono hL109
        have h32 := h32.mono hL109
        have h35 := h35.mono hL109
        have hI := hI.trans hL109
        have hG := hG.mono hL109
        rw [hσ.eq]
        rw [regex_Expr_choices.l1] at H
        refine FW.seq ?_
        refine FW.region ?_
        refine U rfl rfl (V (x_bin rfl rfl rfl) ?_)
        refine FW.seq ?_
        by_cases cc120 : n102 < (l26.length : Int)
        · rw [if_pos cc120] at H
          refine FW.condT rfl (deT cc120) ?_
          refine FW.skip ?_
          refine FW.seq ?_
          refine FW.block ?_
          refine FW.seq ?_
          refine FW.region ?_
          obtain ⟨y121, h122, H⟩ := obx H
          refine U rfl rfl (o_ia (r := (tInt' .i64)) tsl75 rfl rfl h28 rfl h122 fun b123 o124 cs125 hr126 hc127 => ?_)
          obtain rfl := hr126
          refine U rfl rfl (V (x_ld tsc3 rfl (S.cell _ _ _ (hc127 0 _ rfl))) ?_)
          refine U rfl rfl (V (x_asgV (v := .int .i64 y121) rfl) ?_)
          have S := S.drew
          refine FW.regionD mixed ?_
          have hO := Hold.nil (w := { w with drawn := w.drawn + 1 })
          refine AQ.pure 0 rfl (by kernel_rfl) (by kernel_rfl) (by kernel_rfl) rfl hO (fun w => x_movV (v := .pointer (some ⟨bx0, 0, none⟩)) rfl) ?_
          refine AQ.pure 1 rfl (by kernel_rfl) (by kernel_rfl) (by kernel_rfl) rfl hO (fun w => x_nk rfl) ?_
          refine AQ.pure 2 rfl (by kernel_rfl) (by kernel_rfl) (by kernel_rfl) rfl hO (fun w => x_fa tf55_1 rfl) ?_
          have hR128 := IMem.le.refl J101
          refine AQ.take (S := Stab J101 [.bk bx0 55 [.int .i64 n29, v31, v34, .bool b36, v104]]) 3 rfl (by kernel_rfl) (by kernel_rfl) (by kernel_rfl) rfl hO (Stab.of S 1 rfl hR128) (fun w hS => x_ld tsc53 rfl (hS.load 0 rfl 4 rfl)) fun hO => ?_
          refine AQ.pure 4 rfl (by kernel_rfl) (by kernel_rfl) (by kernel_rfl) rfl hO (fun w => x_movV (v := .int .i64 y121) rfl) ?_
          refine AQ.pure 5 rfl (by kernel_rfl) (by kernel_rfl) (by kernel_rfl) rfl hO (fun w => x_movV (v := .pointer (some ⟨bx0, 0, none⟩)) rfl) ?_
          refine AQ.pure 6 rfl (by kernel_rfl) (by kernel_rfl) (by kernel_rfl) rfl hO (fun w => x_nk rfl) ?_
          refine AQ.pure 7 rfl (by kernel_rfl) (by kernel_rfl) (by kernel_rfl) rfl hO (fun w => x_fa tf55_1 rfl) ?_
          refine AQ.take (S := Stab J101 [.bk bx0 55 [.int .i64 n29, v31, v34, .bool b36, v104]]) 8 rfl (by kernel_rfl) (by kernel_rfl) (by kernel_rfl) rfl hO (Stab.of S 1 rfl hR128) (fun w hS => x_ld tsc53 rfl (hS.load 0 rfl 4 rfl)) fun hO => ?_
          refine AQ.pure 9 rfl (by kernel_rfl) (by kernel_rfl) (by kernel_rfl) rfl hO (fun w => x_lenVD (r := R_regex_step) tsl53 rfl rfl S 2 rfl h106 w) ?_
          refine AQ.pure 10 rfl (by kernel_rfl) (by kernel_rfl) (by kernel_rfl) rfl hO (fun w => x_movV (v := .pointer (some ⟨bx0, 0, none⟩)) rfl) ?_
          refine AQ.pure 11 rfl (by kernel_rfl) (by kernel_rfl) (by kernel_rfl) rfl hO (fun w => x_nk rfl) ?_
          refine AQ.pure 12 rfl (by kernel_rfl) (by kernel_rfl) (by kernel_rfl) rfl hO (fun w => x_fa tf55_1 rfl) ?_
          refine AQ.take (S := Stab J101 [.bk bx0 55 [.int .i64 n29, v31, v34, .bool b36, v104]]) 13 rfl (by kernel_rfl) (by kernel_rfl) (by kernel_rfl) rfl hO (Stab.of S 1 rfl hR128) (fun w hS => x_ld tsc53 rfl (hS.load 0 rfl 4 rfl)) fun hO => ?_
          refine AQ.pure 14 rfl (by kernel_rfl) (by kernel_rfl) (by kernel_rfl) rfl hO (fun w => x_lenVD (r := R_regex_step) tsl53 rfl rfl S 2 rfl h106 w) ?_
          refine AQ.pure 15 rfl (by kernel_rfl) (by kernel_rfl) (by kernel_rfl) rfl hO (fun w => x_bldA tar57 tz57 rfl (.one rfl (.one rfl PC.nil)) rfl) ?_
          obtain ⟨y129, h130, H⟩ := obx H
          refine AQ.pureE 16 rfl (by kernel_rfl) (by kernel_rfl) (by kernel_rfl) rfl hO (e_iaVD (r := R_regex_step) tsl53 rfl rfl S 2 rfl h106 rfl h130) ?_
          rintro _ ⟨b131, cs132, cc133, rfl, hv134, hr135, hc136⟩
          obtain ⟨y129v1, rfl, y129h1⟩ := hr135
          refine AQ.pure 17 rfl (by kernel_rfl) (by kernel_rfl) (by kernel_rfl) rfl hO (fun w => x_fa tf59_4 rfl) ?_
          refine AQ.one 18 [13, 8, 3] [false, false, false] (by kernel_rfl) rfl (by kernel_rfl) ?_
          refine U rfl rfl (o_stVA (r := R_regex_step) (f := 4) (y' := (T_regex_step.mk y129.op y129.spans y129.all y129.not ((l103.length : Int), (l103.length : Int)))) tag57 rfl S 2 rfl hv134 h106 h130 ⟨y129v1, rfl, y129h1⟩ hc136 rfl rfl rfl rfl rfl (c1 rfl (c1 rfl c0)) ⟨y129v1, rfl, y129h1⟩ fun w a137 S h138 => ?_)
          refine andI Hold.nil fun hO => ?_
          refine AQ.done (by kernel_rfl) ?_
          refine FW.anew [(0, .pointer (some ⟨bx0, 0, none⟩)), (64, v27), (65, .int .i64 (l26.length : Int)), (66, .int .i64 n102)] ⟨rfl, rfl, rfl, rfl, trivial⟩ fun σ => ?_
          refine FW.region ?_
          refine U rfl rfl (V (x_bin rfl rfl rfl) ?_)
          refine U rfl rfl (V (x_movV (v := .int .i64 (i64 (n102 + 1))) rfl) ?_)
          exact ⟨q108, Nat.le_refl _, (i64 (n102 + 1)), (l103.set y121.toNat (T_regex_step.mk y129.op y129.spans y129.all y129.not ((l103.length : Int), (l103.length : Int)))), v104, a137, J101, H, (Nat.le_of_succ_le hq119), ⟨rfl, rfl, rfl, rfl, trivial⟩, hL109, S, h138⟩
        · rw [if_neg cc120] at H
          refine FW.condF rfl (deF cc120) ?_
          refine FW.exit ?_
          exact ⟨l103, v104, a105, J101, (Option.some.inj H), trivial, hL109, (S.sel 3 [1, 2] rfl), h106⟩
    · rintro σ w ⟨l114, v115, a116, J113, ho, hσ, hL109, S, h117⟩
      subst ho
      have H := HO111
      have h32 := h32.mono hL109
      have h35 := h35.mono hL109
      have hI := hI.trans hL109
      have hG := hG.mono hL109
      rw [hσ.eq]
      obtain rfl := Option.some.inj H
      exact ⟨_, rfl, ⟨v31, v34, v115, a116, J113, hI, rfl, h32, h35, h117, S⟩⟩
theorem regex_Expr_choices.zero : regex_Expr_choices.C 0 := by
  intro _ _ _ _ _ _ _ _ _ _ _ _ _ _ _ _ _ _ H; cases H
theorem regex_Expr_compile.grp : ∀ k m, m ≤ k → regex_Expr_compile.C m ∧ regex_Expr_choices.C m
  | 0, m, h => by
    obtain rfl : m = 0 := by omega
    exact ⟨regex_Expr_compile.zero, regex_Expr_choices.zero⟩
  | k + 1, 0, _ => ⟨regex_Expr_compile.zero, regex_Expr_choices.zero⟩
  | k + 1, m + 1, h => ⟨regex_Expr_compile.step m (fun i hi => (regex_Expr_compile.grp k i (by omega)).1) (fun i hi => (regex_Expr_compile.grp k i (by omega)).2), regex_Expr_choices.step m (fun i hi => (regex_Expr_compile.grp k i (by omega)).1)⟩
theorem regex_Expr_compile.ok (k : Nat) : regex_Expr_compile.C k := (regex_Expr_compile.grp k k (Nat.le_refl k)).1
def regex_Parse.f (k : Nat) (x0 : ByteArray) : Option ((Option T_regex_Expr) × Int) := (if (x0.size : Int) > 100 then (some (none, 4)) else ((regex_signs.f k x0).bind fun y2 => (if y2.2 = true then ((regex_reader_choices.f k (T_regex_reader.mk y2.1 false)).bind fun y8 => ((regex_reader_peek.f k y8.2).bind fun y13 => (if y13.2.bad = true then (some (none, 14)) else (if y13.1.digits = true then (some (none, 14)) else (if y13.1.c = 0 then ((regex_Expr_compile.f k (T_regex_Expr.mk y8.1 []) y8.1).bind fun y23 => ((app 56 y23.prog ([(T_regex_step.mk 4 [] false false (0, 0))])).bind fun l31 => (some ((some (T_regex_Expr.mk y23.top l31)), 0)))) else (some (none, 14))))))) else (some (none, 14)))))
abbrev regex_Parse.C (k : Nat) : Prop := ∀ {x0 : ByteArray} {F : List It} {I : IMem} {w : World} {r : (Option T_regex_Expr) × Int}, Glob I → Own I w (F) → regex_Parse.f k x0 = some r →
    Calls Tryd.prog 8 #[.string x0] w fun e w' => ∃ v, e = .returned v ∧ ∃ (vy_0 : Value) (J : IMem), I.le J ∧ v = .tuple #[vy_0, .int .i64 r.2] ∧ PtR R_regex_Expr J vy_0 r.1 ∧ Own J w' (F)
theorem regex_Parse.ok (k : Nat) : regex_Parse.C k := by
  intro x0 F I w r hG S H
  have hI := IMem.le.refl I
  rw [regex_Parse.f] at H
  refine Calls.ofFW (args := [.string x0]) Tryd.func8 rfl rfl ?_
  refine FW.seq ?_
  refine FW.region ?_
  refine U rfl rfl (V (x_asgV (v := .pointer none) rfl) ?_)
  refine U rfl rfl (V (x_asgV (v := .int .i64 0) rfl) ?_)
  refine FW.seq ?_
  refine FW.seq ?_
  refine FW.region ?_
  refine U rfl rfl (V (x_movV (v := .string x0) rfl) ?_)
  refine U rfl rfl (V (x_lens tstr9 rfl) ?_)
  refine U rfl rfl (V (x_bin rfl rfl rfl) ?_)
  by_cases cc1 : (x0.size : Int) > 100
  · rw [if_pos cc1] at H
    refine FW.condT rfl (deT cc1) ?_
    refine FW.seq ?_
    refine FW.region ?_
    refine U rfl rfl (V (x_asgV (v := .pointer none) rfl) ?_)
    refine U rfl rfl (V (x_asgV (v := .int .i64 4) rfl) ?_)
    refine FW.ret ?_
    obtain rfl := Option.some.inj H
    exact ⟨_, ⟨_, rfl, ⟨_, rfl, rfl⟩⟩, ⟨(.pointer none), I, hI, rfl, (PtR.nil _ _), S⟩⟩
  · rw [if_neg cc1] at H
    refine FW.condF rfl (deF cc1) ?_
    refine FW.skip ?_
    refine FW.seq ?_
    refine FW.region ?_
    refine U rfl rfl (V (x_movV (v := .string x0) rfl) ?_)
    obtain ⟨y2, hy3, H⟩ := obx H
    refine U rfl rfl (cl fb16 (@regex_signs.ok k x0 _ _ _ _ hG S hy3) rfl ?_)
    rintro _ w ⟨vy2_0, J4, hJ5, rfl, hy2_0, S⟩
    have hI := hI.trans hJ5
    have hG := hG.mono hJ5
    refine U rfl rfl (V (x_movV (v := .tuple #[vy2_0, .bool y2.2]) rfl) ?_)
    refine U rfl rfl (V (x_ext rfl rfl) ?_)
    refine U rfl rfl (V (x_ext rfl rfl) ?_)
    refine U rfl rfl (V (x_asgV (v := vy2_0) rfl) ?_)
    refine U rfl rfl (V (x_asgV (v := .bool y2.2) rfl) ?_)
    refine FW.seq ?_
    refine FW.seq ?_
    refine FW.anew [(4, vy2_0), (5, .bool y2.2)] ⟨rfl, rfl, trivial⟩ fun σ => ?_
    refine FW.region ?_
    refine U rfl rfl (V (x_movV (v := .bool y2.2) rfl) ?_)
    refine U rfl rfl (V (x_not' rfl) ?_)
    by_cases cc6 : y2.2 = true
    · rw [if_pos cc6] at H
      refine FW.condF rfl (noF cc6) ?_
      refine FW.skip ?_
      refine FW.seq ?_
      refine FW.region ?_
      refine U rfl rfl (V (x_movV (v := vy2_0) rfl) ?_)
      refine U rfl rfl (V (x_bld tz44 tpl44 rfl (.one hy2_0.one PC.nil) rfl) ?_)
      refine U rfl rfl (o_boxA rfl S fun b7 w S => ?_)
      refine U rfl rfl (V (x_asgV (v := .pointer (some ⟨b7, 0, none⟩)) rfl) ?_)
      refine FW.seq ?_
      refine FW.region ?_
      refine U rfl rfl (V (x_movV (v := .pointer (some ⟨b7, 0, none⟩)) rfl) ?_)
      obtain ⟨y8, hy9, H⟩ := obx H
      refine U rfl rfl (cl fb17 (@regex_reader_choices.ok k (T_regex_reader.mk y2.1 false) _ _ _ _ _ _ hG S hy2_0 hy9) rfl ?_)
      rintro _ w ⟨y8_0v1, y8_0v2, y8_1v0, J10, hJ11, rfl, y8_0h1, y8_0h2, y8_1h0, S⟩
      have hI := hI.trans hJ11
      have hG := hG.mono hJ11
      refine U rfl rfl (o_all tz48 S fun b12 w S => ?_)
      refine U rfl rfl (o_stA tag48 S 0 rfl rfl rfl rfl (c1 rfl (c1 y8_0h1.one (c1 y8_0h2.one (c1 rfl c0)))) rfl fun w S => ?_)
      refine FW.seq ?_
      refine FW.seq ?_
      refine FW.anew [(6, .pointer (some ⟨b7, 0, none⟩)), (7, .pointer (some ⟨b12, 0, none⟩))] ⟨rfl, rfl, trivial⟩ fun σ => ?_
      refine FW.region ?_
      refine U rfl rfl (V (x_movV (v := .pointer (some ⟨b7, 0, none⟩)) rfl) ?_)
      obtain ⟨y13, hy14, H⟩ := obx H
      refine U rfl rfl (cl fb18 (@regex_reader_peek.ok k y8.2 _ _ _ _ _ _ hG (S.sel 3 [1, 0, 2] rfl) y8_1h0 hy14) rfl ?_)
      rintro _ w ⟨y13_1v0, J15, hJ16, rfl, y13_1h0, S⟩
      have y8_0h1 := y8_0h1.mono hJ16
      have y8_0h2 := y8_0h2.mono hJ16
      have hI := hI.trans hJ16
      have hG := hG.mono hJ16
      refine U rfl rfl (o_all tz51 S fun b17 w S => ?_)
      refine U rfl rfl (o_stA tag51 S 0 rfl rfl rfl rfl (c1 rfl (c1 rfl (c1 rfl c0))) rfl fun w S => ?_)
      refine FW.seq ?_
      refine FW.region ?_
      refine U rfl rfl (V (x_movV (v := .pointer (some ⟨b7, 0, none⟩)) rfl) ?_)
      refine U rfl rfl (V (x_nk rfl) ?_)
      refine U rfl rfl (V (x_fa tf44_1 rfl) ?_)
      refine U rfl rfl (V (x_ld tsc4 rfl (S.load 1 rfl 1 rfl)) ?_)
      refine U rfl rfl (V (x_movV (v := .bool y13.2.bad) rfl) ?_)
      by_cases cc18 : y13.2.bad = true
      · rw [if_pos cc18] at H
        refine OK.gf rfl rfl rfl cc18 ?_
        refine OK.gf rfl rfl rfl cc18 ?_
        refine U rfl rfl (V (x_pickTV (v := .bool true) rfl cc18 rfl) ?_)
        refine U rfl rfl (V (x_movV (v := .bool true) rfl) ?_)
        refine OK.gf rfl rfl rfl rfl ?_
        refine OK.gf rfl rfl rfl rfl ?_
        refine OK.gf rfl rfl rfl rfl ?_
        refine U rfl rfl (V (x_pickTV (v := .bool true) rfl rfl rfl) ?_)
        refine FW.condT rfl rfl ?_
        refine FW.seq ?_
        refine FW.anew [] trivial fun σ => ?_
        refine FW.region ?_
        refine U rfl rfl (V (x_asgV (v := .pointer none) rfl) ?_)
        refine U rfl rfl (V (x_asgV (v := .int .i64 14) rfl) ?_)
        refine FW.ret ?_
        obtain rfl := Option.some.inj H
        exact ⟨_, ⟨_, rfl, ⟨_, rfl, rfl⟩⟩, ⟨(.pointer none), J15, hI, rfl, (PtR.nil _ _), (S.sel 4 [] rfl)⟩⟩
      · rw [if_neg cc18] at H
        refine OK.gt rfl rfl rfl (vaF cc18) (V (x_fa tf51_2 rfl) ?_)
        refine OK.gt rfl rfl rfl (vaF cc18) (V (x_ld tsc4 rfl (S.load 0 rfl 2 rfl)) ?_)
        refine U rfl rfl (V (x_pickFV (v := .bool y13.1.digits) rfl (vaF cc18) rfl) ?_)
        refine U rfl rfl (V (x_movV (v := .bool y13.1.digits) rfl) ?_)
        by_cases cc19 : y13.1.digits = true
        · rw [if_pos cc19] at H
          refine OK.gf rfl rfl rfl cc19 ?_
          refine OK.gf rfl rfl rfl cc19 ?_
          refine OK.gf rfl rfl rfl cc19 ?_
          refine U rfl rfl (V (x_pickTV (v := .bool true) rfl cc19 rfl) ?_)
          refine FW.condT rfl rfl ?_
          refine FW.seq ?_
          refine FW.anew [] trivial fun σ => ?_
          refine FW.region ?_
          refine U rfl rfl (V (x_asgV (v := .pointer none) rfl) ?_)
          refine U rfl rfl (V (x_asgV (v := .int .i64 14) rfl) ?_)
          refine FW.ret ?_
          obtain rfl := Option.some.inj H
          exact ⟨_, ⟨_, rfl, ⟨_, rfl, rfl⟩⟩, ⟨(.pointer none), J15, hI, rfl, (PtR.nil _ _), (S.sel 4 [] rfl)⟩⟩
        · rw [if_neg cc19] at H
          refine OK.gt rfl rfl rfl (vaF cc19) (V (x_fa tf51_0 rfl) ?_)
          refine OK.gt rfl rfl rfl (vaF cc19) (V (x_ld tsc21 rfl (S.load 0 rfl 0 rfl)) ?_)
          refine OK.gt rfl rfl rfl (vaF cc19) (V (x_bin rfl rfl rfl) ?_)
          refine U rfl rfl (V (x_pickFV (v := .bool (y13.1.c != 0)) rfl (vaF cc19) rfl) ?_)
          by_cases cc20 : y13.1.c = 0
          · rw [if_pos cc20] at H
            refine FW.condF rfl (neF cc20) ?_
            refine FW.skip ?_
            refine FW.seq ?_
            refine FW.anew [(7, .pointer (some ⟨b12, 0, none⟩))] ⟨rfl, trivial⟩ fun σ => ?_
            refine FW.region ?_
            refine U rfl rfl (V (x_ldA tag48 rfl (S.loadW 2 rfl) rfl) ?_)
            refine U rfl rfl (V (x_bld tz55 tpl55 rfl (.agg PC.nil) rfl) ?_)
            refine U rfl rfl (o_boxA rfl S fun b21 w S => ?_)
            refine U rfl rfl (V (x_asgV (v := .pointer (some ⟨b21, 0, none⟩)) rfl) ?_)
            refine FW.seq ?_
            refine FW.region ?_
            refine U rfl rfl (V (x_movV (v := .pointer (some ⟨b21, 0, none⟩)) rfl) ?_)
            refine U rfl rfl (V (x_ldA tag48 rfl (S.loadW 3 rfl) rfl) ?_)
            have S := S.nil_av 59 6
            obtain ⟨y23, hy24, H⟩ := obx H
            refine U rfl rfl (cl fb19 (@regex_Expr_compile.ok k (T_regex_Expr.mk y8.1 []) y8.1 _ _ _ _ _ _ _ _ _ _ _ hG (S.sel 6 [1, 0, 2, 3, 4, 5] rfl) y8_0h1 y8_0h2 (Flat.nil' _ _) y8_0h1 y8_0h2 hy24) rfl ?_)
            rintro _ w ⟨y23_0v1, y23_0v2, y23_0v4, cy23_0_4, J25, hJ26, rfl, y23_0h1, y23_0h2, y23_0h4, S⟩
            have y8_0h1 := y8_0h1.mono hJ26
            have y8_0h2 := y8_0h2.mono hJ26
            have y13_1h0 := y13_1h0.mono hJ26
            have hI := hI.trans hJ26
            have hG := hG.mono hJ26
            refine FW.seq ?_
            refine FW.anew [(9, .pointer (some ⟨b21, 0, none⟩))] ⟨rfl, trivial⟩ fun σ => ?_
            refine FW.region ?_
            refine U rfl rfl (V (x_movV (v := .pointer (some ⟨b21, 0, none⟩)) rfl) ?_)
            refine U rfl rfl (V (x_movV (v := .pointer (some ⟨b21, 0, none⟩)) rfl) ?_)
            refine U rfl rfl (V (x_nk rfl) ?_)
            refine U rfl rfl (V (x_fa tf55_1 rfl) ?_)
            refine U rfl rfl (V (x_ld tsc53 rfl (S.load 0 rfl 4 rfl)) ?_)
            refine U rfl rfl (V (x_bld tz59 tpl59 rfl (.one rfl PC.nil) rfl) ?_)
            refine U rfl rfl (o_bsl tsl53 tz59 rfl rfl rfl rfl (.agg PC.nil) rfl S fun b27 w S => ?_)
            obtain ⟨J28, hJ30, S, h29⟩ := S.freeze (r := R_regex_step) (l := [(T_regex_step.mk 4 [] false false (0, 0))]) 0 rfl ⟨[.int .i64 4, (.slice none 0 0), .bool false, .bool false, .int .i64 0, .int .i64 0], _, rfl, ⟨(.slice none 0 0), rfl, (SlR.nil _ _)⟩, rfl⟩ rfl rfl
            have y23_0h1 := y23_0h1.mono hJ30
            have y23_0h2 := y23_0h2.mono hJ30
            have y23_0h4 := y23_0h4.mono hJ30
            have y13_1h0 := y13_1h0.mono hJ30
            have y8_0h1 := y8_0h1.mono hJ30
            have y8_0h2 := y8_0h2.mono hJ30
            have hI := hI.trans hJ30
            have hG := hG.mono hJ30
            obtain ⟨l31, h33, H⟩ := obx H
            refine U rfl rfl (o_appV (r := R_regex_step) tsl53 rfl tz59 rfl rfl S 2 rfl rfl y23_0h4 h29 h33 fun v32 w a35 S h34 => ?_)
            refine U rfl rfl (V (x_nk rfl) ?_)
            refine U rfl rfl (V (x_fa tf55_1 rfl) ?_)
            refine U rfl rfl (o_st tone53 S 1 rfl rfl rfl (av_one S 2 rfl) fun w S => ?_)
            refine FW.seq ?_
            refine FW.anew [(9, .pointer (some ⟨b21, 0, none⟩))] ⟨rfl, trivial⟩ fun σ => ?_
            refine FW.region ?_
            refine U rfl rfl (V (x_movV (v := .pointer (some ⟨b21, 0, none⟩)) rfl) ?_)
            refine U rfl rfl (V (x_asgV (v := .pointer (some ⟨b21, 0, none⟩)) rfl) ?_)
            refine U rfl rfl (V (x_asgV (v := .int .i64 0) rfl) ?_)
            refine FW.ret ?_
            obtain ⟨J36, hJ38, S, h37⟩ := S.freeze (r := R_regex_step) (l := l31) 2 rfl h34 rfl rfl
            have y23_0h1 := y23_0h1.mono hJ38
            have y23_0h2 := y23_0h2.mono hJ38
            have y13_1h0 := y13_1h0.mono hJ38
            have y8_0h1 := y8_0h1.mono hJ38
            have y8_0h2 := y8_0h2.mono hJ38
            have hI := hI.trans hJ38
            have hG := hG.mono hJ38
            obtain ⟨J39, hJ41, S, h40⟩ := S.freezeB (r := R_regex_Expr) (x := (T_regex_Expr.mk y23.top l31)) 1 rfl ⟨y23_0v1, y23_0v2, v32, rfl, y23_0h1, y23_0h2, h37⟩
            have y13_1h0 := y13_1h0.mono hJ41
            have y8_0h1 := y8_0h1.mono hJ41
            have y8_0h2 := y8_0h2.mono hJ41
            have hI := hI.trans hJ41
            have hG := hG.mono hJ41
            obtain rfl := Option.some.inj H
            exact ⟨_, ⟨_, rfl, ⟨_, rfl, rfl⟩⟩, ⟨(.pointer (some ⟨b21, 0, none⟩)), J39, hI, rfl, h40, (S.sel 6 [] rfl)⟩⟩
          · rw [if_neg cc20] at H
            refine FW.condT rfl (neT cc20) ?_
            refine FW.seq ?_
            refine FW.anew [] trivial fun σ => ?_
            refine FW.region ?_
            refine U rfl rfl (V (x_asgV (v := .pointer none) rfl) ?_)
            refine U rfl rfl (V (x_asgV (v := .int .i64 14) rfl) ?_)
            refine FW.ret ?_
            obtain rfl := Option.some.inj H
            exact ⟨_, ⟨_, rfl, ⟨_, rfl, rfl⟩⟩, ⟨(.pointer none), J15, hI, rfl, (PtR.nil _ _), (S.sel 4 [] rfl)⟩⟩
    · rw [if_neg cc6] at H
      refine FW.condT rfl (noT (vaF cc6)) ?_
      refine FW.seq ?_
      refine FW.region ?_
      refine U rfl rfl (V (x_asgV (v := .pointer none) rfl) ?_)
      refine U rfl rfl (V (x_asgV (v := .int .i64 14) rfl) ?_)
      refine FW.ret ?_
      obtain rfl := Option.some.inj H
      exact ⟨_, ⟨_, rfl, ⟨_, rfl, rfl⟩⟩, ⟨(.pointer none), J4, hI, rfl, (PtR.nil _ _), (S.sel 1 [] rfl)⟩⟩
mutual
def regex_Expr_add.f : Nat → (Option T_regex_Expr) → (List Bool) → Int → Int → Int → Option (List Bool)
  | 0, _, _, _, _, _ => none
  | k + 1, x0, x1, x2, x3, x4 => ((lat x1 x2).bind fun y1 => (if y1 = true then (some x1) else ((lat x1 x2).bind fun y10 => ((x0).bind fun y20 => ((lat y20.prog x2).bind fun y28 => (if y28.op = 1 then ((regex_Expr_add.f k x0 (x1.set x2.toNat true) y28.to_.1 x3 x4).bind fun y37 => ((regex_Expr_add.f k x0 y37 y28.to_.2 x3 x4).bind fun y41 => (some y41))) else (if y28.op = 2 then (if x3 = 0 then ((regex_Expr_add.f k x0 (x1.set x2.toNat true) (i64 (x2 + 1)) x3 x4).bind fun y47 => (some y47)) else (some (x1.set x2.toNat true))) else (if y28.op = 3 then (if x3 = x4 then ((regex_Expr_add.f k x0 (x1.set x2.toNat true) (i64 (x2 + 1)) x3 x4).bind fun y53 => (some y53)) else (some (x1.set x2.toNat true))) else (some (x1.set x2.toNat true))))))))))
end
abbrev regex_Expr_add.C (k : Nat) : Prop := ∀ {x0 : (Option T_regex_Expr)} {x1 : (List Bool)} {x2 : Int} {x3 : Int} {x4 : Int} {vx0 : Value} {vx1 : Value} {cx1 : List Value} {F : List It} {I : IMem} {w : World} {r : (List Bool)}, Glob I → Own I w (.av vx1 4 1 cx1 :: F) → PtR R_regex_Expr I vx0 x0 → Flat tBool I cx1 x1 → regex_Expr_add.f k x0 x1 x2 x3 x4 = some r →
    Calls Tryd.prog 22 #[vx0, vx1, .int .i64 x2, .int .i64 x3, .int .i64 x4] w fun e w' => ∃ v, e = .returned v ∧ ∃ (cy_0 : List Value) (J : IMem), I.le J ∧ v = .tuple #[] ∧ Flat tBool J cy_0 r ∧ Own J w' (.av vx1 4 1 cy_0 :: F)
theorem regex_Expr_add.step (k : Nat) (ih_regex_Expr_add : ∀ m, m ≤ k → regex_Expr_add.C m) : regex_Expr_add.C (k + 1) := by
  intro x0 x1 x2 x3 x4 vx0 vx1 cx1 F I w r hG S hx0 hx1 H
  have hI := IMem.le.refl I
  rw [regex_Expr_add.f] at H
  refine Calls.ofFW (args := [vx0, vx1, .int .i64 x2, .int .i64 x3, .int .i64 x4]) Tryd.func22 rfl rfl ?_
  refine FW.seq ?_
  refine FW.seq ?_
  refine FW.region ?_
  refine U rfl rfl (V (x_movV (v := vx1) rfl) ?_)
  refine U rfl rfl (V (x_movV (v := .int .i64 x2) rfl) ?_)
  obtain ⟨y1, h2, H⟩ := obx H
  refine U rfl rfl (o_iaV (r := tBool) tsl64 rfl rfl S 0 rfl hx1 rfl h2 fun b3 cs4 cc5 hv6 hr7 hc8 => ?_)
  obtain rfl := hr7
  refine U rfl rfl (V (x_ld tsc4 rfl (S.loadV 0 rfl hv6 (hc8 0 _ rfl))) ?_)
  by_cases cc9 : y1 = true
  · rw [if_pos cc9] at H
    refine FW.condT rfl cc9 ?_
    refine FW.ret ?_
    obtain rfl := Option.some.inj H
    exact ⟨_, rfl, ⟨cx1, I, hI, rfl, hx1, S⟩⟩
  · rw [if_neg cc9] at H
    refine FW.condF rfl (vaF cc9) ?_
    refine FW.skip ?_
    refine FW.seq ?_
    refine FW.region ?_
    refine U rfl rfl (V (x_movV (v := vx1) rfl) ?_)
    refine U rfl rfl (V (x_movV (v := .int .i64 x2) rfl) ?_)
    obtain ⟨y10, h11, H⟩ := obx H
    refine U rfl rfl (o_iaV (r := tBool) tsl64 rfl rfl S 0 rfl hx1 rfl h11 fun b12 cs13 cc14 hv15 hr16 hc17 => ?_)
    obtain rfl := hr16
    refine U rfl rfl (o_stV (r := tBool) (f := 0) (y' := true) tone4 rfl S 0 rfl hv15 hx1 h11 rfl hc17 rfl rfl rfl rfl rfl fun w a18 S h19 => ?_)
    refine FW.seq ?_
    refine FW.anew [(0, vx0), (1, vx1), (2, .int .i64 x2), (3, .int .i64 x3), (4, .int .i64 x4)] ⟨rfl, rfl, rfl, rfl, rfl, trivial⟩ fun σ => ?_
    refine FW.region ?_
    refine U rfl rfl (V (x_movV (v := vx0) rfl) ?_)
    obtain ⟨y20, hy21, H⟩ := obx H
    obtain ⟨b22, o23, cs24, hv25, hr26, hc27⟩ := hx0.some hy21
    obtain ⟨y20v1, y20v2, y20v4, rfl, y20h1, y20h2, y20h4⟩ := hr26
    refine U rfl rfl (V (x_nk hv25) ?_)
    refine U rfl rfl (V (x_fa tf55_1 rfl) ?_)
    refine U rfl rfl (V (x_ld tsc53 rfl (S.cell _ _ _ (hc27 4 _ rfl))) ?_)
    refine U rfl rfl (V (x_movV (v := .int .i64 x2) rfl) ?_)
    obtain ⟨y28, h29, H⟩ := obx H
    refine U rfl rfl (o_ia (r := R_regex_step) tsl53 rfl rfl y20h4 rfl h29 fun b30 o31 cs32 hr33 hc34 => ?_)
    obtain ⟨y28v1, rfl, y28h1⟩ := hr33
    refine U rfl rfl (V (x_ldA tag59 rfl (S.loadI hc34) rfl) ?_)
    refine U rfl rfl (o_all tz59 S fun b35 w S => ?_)
    refine U rfl rfl (o_stA tag59 S 0 rfl rfl rfl rfl (c1 rfl (c1 y28h1.one (c1 rfl (c1 rfl (c1 rfl (c1 rfl c0)))))) rfl fun w S => ?_)
    refine FW.seq ?_
    refine FW.anew [(0, vx0), (1, vx1), (2, .int .i64 x2), (3, .int .i64 x3), (4, .int .i64 x4), (10, .pointer (some ⟨b35, 0, none⟩))] ⟨rfl, rfl, rfl, rfl, rfl, rfl, trivial⟩ fun σ => ?_
    refine FW.region ?_
    refine U rfl rfl (V (x_fa tf59_0 rfl) ?_)
    refine U rfl rfl (V (x_ld tsc3 rfl (S.load 0 rfl 0 rfl)) ?_)
    refine FW.block ?_
    refine FW.seq ?_
    refine FW.region ?_
    refine U rfl rfl (V (x_bin rfl rfl rfl) ?_)
    refine U rfl rfl (V (x_asgV (v := .bool (y28.op == 1)) rfl) ?_)
    by_cases cc36 : y28.op = 1
    · rw [if_pos cc36] at H
      refine FW.condT rfl (eqT cc36) ?_
      refine FW.seq ?_
      refine FW.region ?_
      refine U rfl rfl (V (x_movV (v := vx0) rfl) ?_)
      refine U rfl rfl (V (x_movV (v := vx1) rfl) ?_)
      refine U rfl rfl (V (x_fa tf59_4 rfl) ?_)
      refine U rfl rfl (V (x_iaA tar57 rfl rfl (by decide) (by decide)) ?_)
      refine U rfl rfl (V (x_ld tsc3 rfl (S.load 0 rfl 4 rfl)) ?_)
      refine U rfl rfl (V (x_movV (v := .int .i64 x3) rfl) ?_)
      refine U rfl rfl (V (x_movV (v := .int .i64 x4) rfl) ?_)
      obtain ⟨y37, hy38, H⟩ := obx H
      refine U rfl rfl (cl fb22 (@ih_regex_Expr_add k (by omega) x0 (x1.set x2.toNat true) y28.to_.1 x3 x4 _ _ _ _ _ _ _ hG (S.sel 2 [1, 0] rfl) hx0 h19 hy38) rfl ?_)
      rintro _ w ⟨cy37_0, J39, hJ40, rfl, hy37_0, S⟩
      have hx0 := hx0.mono hJ40
      have hc27 := hc27.mono hJ40
      have y20h1 := y20h1.mono hJ40
      have y20h2 := y20h2.mono hJ40
      have y20h4 := y20h4.mono hJ40
      have y28h1 := y28h1.mono hJ40
      have hI := hI.trans hJ40
      have hG := hG.mono hJ40
      refine FW.anew [(0, vx0), (1, vx1), (3, .int .i64 x3), (4, .int .i64 x4), (10, .pointer (some ⟨b35, 0, none⟩))] ⟨rfl, rfl, rfl, rfl, rfl, trivial⟩ fun σ => ?_
      refine FW.region ?_
      refine U rfl rfl (V (x_movV (v := vx0) rfl) ?_)
      refine U rfl rfl (V (x_movV (v := vx1) rfl) ?_)
      refine U rfl rfl (V (x_fa tf59_4 rfl) ?_)
      refine U rfl rfl (V (x_iaA tar57 rfl rfl (by decide) (by decide)) ?_)
      refine U rfl rfl (V (x_ld tsc3 rfl (S.load 1 rfl 5 rfl)) ?_)
      refine U rfl rfl (V (x_movV (v := .int .i64 x3) rfl) ?_)
      refine U rfl rfl (V (x_movV (v := .int .i64 x4) rfl) ?_)
      obtain ⟨y41, hy42, H⟩ := obx H
      refine U rfl rfl (cl fb22 (@ih_regex_Expr_add k (by omega) x0 y37 y28.to_.2 x3 x4 _ _ _ _ _ _ _ hG S hx0 hy37_0 hy42) rfl ?_)
      rintro _ w ⟨cy41_0, J43, hJ44, rfl, hy41_0, S⟩
      have hx0 := hx0.mono hJ44
      have hc27 := hc27.mono hJ44
      have y20h1 := y20h1.mono hJ44
      have y20h2 := y20h2.mono hJ44
      have y20h4 := y20h4.mono hJ44
      have y28h1 := y28h1.mono hJ44
      have hI := hI.trans hJ44
      have hG := hG.mono hJ44
      obtain rfl := Option.some.inj H
      exact ⟨_, rfl, ⟨cy41_0, J43, hI, rfl, hy41_0, (S.sel 2 [0] rfl)⟩⟩
    · rw [if_neg cc36] at H
      refine FW.condF rfl (eqF cc36) ?_
      refine FW.seq ?_
      refine FW.region ?_
      refine U rfl rfl (V (x_bin rfl rfl rfl) ?_)
      refine U rfl rfl (V (x_asgV (v := .bool (y28.op == 2)) rfl) ?_)
      by_cases cc45 : y28.op = 2
      · rw [if_pos cc45] at H
        refine FW.condT rfl (eqT cc45) ?_
        refine FW.seq ?_
        refine FW.region ?_
        refine U rfl rfl (V (x_movV (v := .int .i64 x3) rfl) ?_)
        refine U rfl rfl (V (x_bin rfl rfl rfl) ?_)
        by_cases cc46 : x3 = 0
        · rw [if_pos cc46] at H
          refine FW.condT rfl (eqT cc46) ?_
          refine FW.anew [(0, vx0), (1, vx1), (2, .int .i64 x2), (3, .int .i64 x3), (4, .int .i64 x4)] ⟨rfl, rfl, rfl, rfl, rfl, trivial⟩ fun σ => ?_
          refine FW.region ?_
          refine U rfl rfl (V (x_movV (v := vx0) rfl) ?_)
          refine U rfl rfl (V (x_movV (v := vx1) rfl) ?_)
          refine U rfl rfl (V (x_movV (v := .int .i64 x2) rfl) ?_)
          refine U rfl rfl (V (x_bin rfl rfl rfl) ?_)
          refine U rfl rfl (V (x_movV (v := .int .i64 x3) rfl) ?_)
          refine U rfl rfl (V (x_movV (v := .int .i64 x4) rfl) ?_)
          obtain ⟨y47, hy48, H⟩ := obx H
          refine U rfl rfl (cl fb22 (@ih_regex_Expr_add k (by omega) x0 (x1.set x2.toNat true) (i64 (x2 + 1)) x3 x4 _ _ _ _ _ _ _ hG (S.sel 2 [1, 0] rfl) hx0 h19 hy48) rfl ?_)
          rintro _ w ⟨cy47_0, J49, hJ50, rfl, hy47_0, S⟩
          have hx0 := hx0.mono hJ50
          have hc27 := hc27.mono hJ50
          have y20h1 := y20h1.mono hJ50
          have y20h2 := y20h2.mono hJ50
          have y20h4 := y20h4.mono hJ50
          have y28h1 := y28h1.mono hJ50
          have hI := hI.trans hJ50
          have hG := hG.mono hJ50
          obtain rfl := Option.some.inj H
          exact ⟨_, rfl, ⟨cy47_0, J49, hI, rfl, hy47_0, (S.sel 2 [0] rfl)⟩⟩
        · rw [if_neg cc46] at H
          refine FW.condF rfl (eqF cc46) ?_
          refine FW.skip ?_
          obtain rfl := Option.some.inj H
          exact ⟨_, rfl, ⟨a18, I, hI, rfl, h19, (S.sel 2 [1] rfl)⟩⟩
      · rw [if_neg cc45] at H
        refine FW.condF rfl (eqF cc45) ?_
        refine FW.seq ?_
        refine FW.region ?_
        refine U rfl rfl (V (x_bin rfl rfl rfl) ?_)
        refine U rfl rfl (V (x_asgV (v := .bool (y28.op == 3)) rfl) ?_)
        by_cases cc51 : y28.op = 3
        · rw [if_pos cc51] at H
          refine FW.condT rfl (eqT cc51) ?_
          refine FW.seq ?_
          refine FW.anew [(0, vx0), (1, vx1), (2, .int .i64 x2), (3, .int .i64 x3), (4, .int .i64 x4)] ⟨rfl, rfl, rfl, rfl, rfl, trivial⟩ fun σ => ?_
          refine FW.region ?_
          refine U rfl rfl (V (x_movV (v := .int .i64 x3) rfl) ?_)
          refine U rfl rfl (V (x_movV (v := .int .i64 x4) rfl) ?_)
          refine U rfl rfl (V (x_bin rfl rfl rfl) ?_)
          by_cases cc52 : x3 = x4
          · rw [if_pos cc52] at H
            refine FW.condT rfl (eqT cc52) ?_
            refine FW.region ?_
            refine U rfl rfl (V (x_movV (v := vx0) rfl) ?_)
            refine U rfl rfl (V (x_movV (v := vx1) rfl) ?_)
            refine U rfl rfl (V (x_movV (v := .int .i64 x2) rfl) ?_)
            refine U rfl rfl (V (x_bin rfl rfl rfl) ?_)
            refine U rfl rfl (V (x_movV (v := .int .i64 x3) rfl) ?_)
            refine U rfl rfl (V (x_movV (v := .int .i64 x4) rfl) ?_)
            obtain ⟨y53, hy54, H⟩ := obx H
            refine U rfl rfl (cl fb22 (@ih_regex_Expr_add k (by omega) x0 (x1.set x2.toNat true) (i64 (x2 + 1)) x3 x4 _ _ _ _ _ _ _ hG (S.sel 2 [1, 0] rfl) hx0 h19 hy54) rfl ?_)
            rintro _ w ⟨cy53_0, J55, hJ56, rfl, hy53_0, S⟩
            have hx0 := hx0.mono hJ56
            have hc27 := hc27.mono hJ56
            have y20h1 := y20h1.mono hJ56
            have y20h2 := y20h2.mono hJ56
            have y20h4 := y20h4.mono hJ56
            have y28h1 := y28h1.mono hJ56
            have hI := hI.trans hJ56
            have hG := hG.mono hJ56
            obtain rfl := Option.some.inj H
            exact ⟨_, rfl, ⟨cy53_0, J55, hI, rfl, hy53_0, (S.sel 2 [0] rfl)⟩⟩
          · rw [if_neg cc52] at H
            refine FW.condF rfl (eqF cc52) ?_
            refine FW.skip ?_
            obtain rfl := Option.some.inj H
            exact ⟨_, rfl, ⟨a18, I, hI, rfl, h19, (S.sel 2 [1] rfl)⟩⟩
        · rw [if_neg cc51] at H
          refine FW.condF rfl (eqF cc51) ?_
          refine FW.skip ?_
          obtain rfl := Option.some.inj H
          exact ⟨_, rfl, ⟨a18, I, hI, rfl, h19, (S.sel 2 [1] rfl)⟩⟩
theorem regex_Expr_add.zero : regex_Expr_add.C 0 := by
  intro _ _ _ _ _ _ _ _ _ _ _ _ _ _ _ _ H; cases H
theorem regex_Expr_add.grp : ∀ k m, m ≤ k → regex_Expr_add.C m
  | 0, m, h => by
    obtain rfl : m = 0 := by omega
    exact regex_Expr_add.zero
  | k + 1, 0, _ => regex_Expr_add.zero
  | k + 1, m + 1, h => regex_Expr_add.step m (fun i hi => (regex_Expr_add.grp k i (by omega)))
theorem regex_Expr_add.ok (k : Nat) : regex_Expr_add.C k := (regex_Expr_add.grp k k (Nat.le_refl k))
def regex_step_takes.l0 : Nat → T_regex_step → Int → Int → Option (Sum Bool Unit)
  | 0, _, _, _ => none
  | k + 1, x0, x1, n4 => (if n4 < (x0.spans.length : Int) then ((lat x0.spans n4).bind fun y13 => (if x1 ≥ y13.from_ then (if x1 ≤ y13.to_ then (some (.inl (!x0.not))) else (regex_step_takes.l0 k x0 x1 (i64 (n4 + 1)))) else (regex_step_takes.l0 k x0 x1 (i64 (n4 + 1))))) else (some (.inr ())))
def regex_step_takes.f (k : Nat) (x0 : T_regex_step) (x1 : Int) : Option Bool := (if x0.all = true then (some true) else (((regex_step_takes.l0 k x0 x1 0) : Option (Sum Bool Unit)).bind fun o => match o with | .inl r => some r | .inr _ => (some x0.not)))
abbrev regex_step_takes.C (k : Nat) : Prop := ∀ {x0 : T_regex_step} {x1 : Int} {x0v1 : Value} {F : List It} {I : IMem} {w : World} {r : Bool}, Glob I → Own I w (F) → SlR R_regex_span I x0v1 x0.spans → regex_step_takes.f k x0 x1 = some r →
    Calls Tryd.prog 23 #[.agg #[.int .i64 x0.op, x0v1, .bool x0.all, .bool x0.not, .int .i64 x0.to_.1, .int .i64 x0.to_.2], .int .u32 x1] w fun e w' => ∃ v, e = .returned v ∧ v = .bool r ∧ Own I w' (F)
theorem regex_step_takes.ok (k : Nat) : regex_step_takes.C k := by
  intro x0 x1 x0v1 F I w r hG S x0h1 H
  have hI := IMem.le.refl I
  rw [regex_step_takes.f] at H
  refine Calls.ofFW (args := [.agg #[.int .i64 x0.op, x0v1, .bool x0.all, .bool x0.not, .int .i64 x0.to_.1, .int .i64 x0.to_.2], .int .u32 x1]) Tryd.func23 rfl rfl ?_
  refine FW.seq ?_
  refine FW.region ?_
  refine U rfl rfl (o_boxA rfl S fun b1 w S => ?_)
  refine U rfl rfl (V (x_asgV (v := .bool false) rfl) ?_)
  refine FW.seq ?_
  refine FW.seq ?_
  refine FW.region ?_
  refine U rfl rfl (V (x_fa tf59_2 rfl) ?_)
  refine U rfl rfl (V (x_ld tsc4 rfl (S.load 0 rfl 2 rfl)) ?_)
  by_cases cc2 : x0.all = true
  · rw [if_pos cc2] at H
    refine FW.condT rfl cc2 ?_
    refine FW.seq ?_
    refine FW.region ?_
    refine U rfl rfl (V (x_asgV (v := .bool true) rfl) ?_)
    refine FW.ret ?_
    obtain rfl := Option.some.inj H
    exact ⟨_, ⟨_, rfl, rfl⟩, ⟨rfl, ((S.sel 1 [] rfl).weaken hI)⟩⟩
  · rw [if_neg cc2] at H
    refine FW.condF rfl (vaF cc2) ?_
    refine FW.skip ?_
    refine FW.seq ?_
    refine FW.seq ?_
    refine FW.region ?_
    refine U rfl rfl (V (x_fa tf59_1 rfl) ?_)
    refine U rfl rfl (V (x_ld tsc46 rfl (S.load 0 rfl 1 rfl)) ?_)
    refine U rfl rfl (V (x_lenD (r := R_regex_span) tsl46 x0h1) ?_)
    refine U rfl rfl (V (x_movV (v := .int .i64 0) rfl) ?_)
    refine FW.block ?_
    obtain ⟨o7, hl9, HO8⟩ := obx H
    refine FW.cutX 0 (fun σ w => ∃ (J10 : IMem), (.inr ()) = o7 ∧ Has σ [(2, .pointer (some ⟨b1, 0, none⟩))] ∧ I.le J10 ∧ Own J10 w (.bk b1 59 [.int .i64 x0.op, x0v1, .bool x0.all, .bool x0.not, .int .i64 x0.to_.1, .int .i64 x0.to_.2] :: F)) ?_ ?_
    ·
      refine FW.loop k (FL.ind (fun q σ w => ∃ (n4 : Int) (J3 : IMem), regex_step_takes.l0 q x0 x1 n4 = some o7 ∧ q ≤ k ∧ Has σ [(1, .int .u32 x1), (2, .pointer (some ⟨b1, 0, none⟩)), (10, x0v1), (11, .int .i64 (x0.spans.length : Int)), (12, .int .i64 n4)] ∧ I.le J3 ∧ Own J3 w (.bk b1 59 [.int .i64 x0.op, x0v1, .bool x0.all, .bool x0.not, .int .i64 x0.to_.1, .int .i64 x0.to_.2] :: F)) ?_ ?_ k k _ _ (Nat.le_refl _) ⟨0, I, hl9, Nat.le_refl _, ⟨rfl, rfl, rfl, rfl, rfl, trivial⟩, (IMem.le.refl _), S⟩)
      · rintro σ w ⟨n4, J3, H, _⟩; cases H
      · rintro q5 σ w ⟨n4, J3, H, hq11, hσ, hL6, S⟩
        have x0h1 := x0h1.mono hL6
        have hI := hI.trans hL6
        have hG := hG.mono hL6
        rw [hσ.eq]
        rw [regex_step_takes.l0] at H
        refine FW.seq ?_
        refine FW.region ?_
        refine U rfl rfl (V (x_bin rfl rfl rfl) ?_)
        refine FW.seq ?_
        by_cases cc12 : n4 < (x0.spans.length : Int)
        · rw [if_pos cc12] at H
          refine FW.condT rfl (deT cc12) ?_
          refine FW.skip ?_
          refine FW.seq ?_
          refine FW.block ?_
          refine FW.seq ?_
          refine FW.region ?_
          obtain ⟨y13, h14, H⟩ := obx H
          refine U rfl rfl (o_ia (r := R_regex_span) tsl46 rfl rfl x0h1 rfl h14 fun b15 o16 cs17 hr18 hc19 => ?_)
          obtain rfl := hr18
          refine U rfl rfl (V (x_ldA tag80 rfl (S.loadI hc19) rfl) ?_)
          refine U rfl rfl (o_all tz80 S fun b20 w S => ?_)
          refine U rfl rfl (o_stA tag80 S 0 rfl rfl rfl rfl (c1 rfl (c1 rfl c0)) rfl fun w S => ?_)
          refine FW.seq ?_
          refine FW.region ?_
          refine U rfl rfl (V (x_movV (v := .int .u32 x1) rfl) ?_)
          refine U rfl rfl (V (x_fa tf80_0 rfl) ?_)
          refine U rfl rfl (V (x_ld tsc38 rfl (S.load 0 rfl 0 rfl)) ?_)
          refine U rfl rfl (V (x_bin rfl rfl rfl) ?_)
          refine U rfl rfl (V (x_movV (v := .bool (decide (x1 ≥ y13.from_))) rfl) ?_)
          by_cases cc21 : x1 ≥ y13.from_
          · rw [if_pos cc21] at H
            refine OK.gt rfl rfl rfl (deT cc21) (V (x_movV (v := .int .u32 x1) rfl) ?_)
            refine OK.gt rfl rfl rfl (deT cc21) (V (x_fa tf80_1 rfl) ?_)
            refine OK.gt rfl rfl rfl (deT cc21) (V (x_ld tsc38 rfl (S.load 0 rfl 1 rfl)) ?_)
            refine OK.gt rfl rfl rfl (deT cc21) (V (x_bin rfl rfl rfl) ?_)
            refine U rfl rfl (V (x_pickTV (v := .bool (decide (x1 ≤ y13.to_))) rfl (deT cc21) rfl) ?_)
            by_cases cc22 : x1 ≤ y13.to_
            · rw [if_pos cc22] at H
              refine FW.condT rfl (deT cc22) ?_
              refine FW.seq ?_
              refine FW.anew [(2, .pointer (some ⟨b1, 0, none⟩))] ⟨rfl, trivial⟩ fun σ => ?_
              refine FW.region ?_
              refine U rfl rfl (V (x_fa tf59_3 rfl) ?_)
              refine U rfl rfl (V (x_ld tsc4 rfl (S.load 1 rfl 3 rfl)) ?_)
              refine U rfl rfl (V (x_not' rfl) ?_)
              refine U rfl rfl (V (x_asgV (v := .bool (!x0.not)) rfl) ?_)
              refine FW.ret ?_
              obtain rfl := Option.some.inj H
              obtain rfl := Option.some.inj HO8
              exact ⟨_, ⟨_, rfl, rfl⟩, ⟨rfl, ((S.sel 2 [] rfl).weaken hI)⟩⟩
            · rw [if_neg cc22] at H
              refine FW.condF rfl (deF cc22) ?_
              refine FW.skip ?_
              refine FW.anew [(1, .int .u32 x1), (2, .pointer (some ⟨b1, 0, none⟩)), (10, x0v1), (11, .int .i64 (x0.spans.length : Int)), (12, .int .i64 n4)] ⟨rfl, rfl, rfl, rfl, rfl, trivial⟩ fun σ => ?_
              refine FW.region ?_
              refine U rfl rfl (V (x_bin rfl rfl rfl) ?_)
              refine U rfl rfl (V (x_movV (v := .int .i64 (i64 (n4 + 1))) rfl) ?_)
              exact ⟨q5, Nat.le_refl _, (i64 (n4 + 1)), J3, H, (Nat.le_of_succ_le hq11), ⟨rfl, rfl, rfl, rfl, rfl, trivial⟩, hL6, (S.sel 2 [1] rfl)⟩
          · rw [if_neg cc21] at H
            refine OK.gf rfl rfl rfl (deF cc21) ?_
            refine OK.gf rfl rfl rfl (deF cc21) ?_
            refine OK.gf rfl rfl rfl (deF cc21) ?_
            refine OK.gf rfl rfl rfl (deF cc21) ?_
            refine U rfl rfl (V (x_pickFV (v := .bool false) rfl (deF cc21) rfl) ?_)
            refine FW.condF rfl rfl ?_
            refine FW.skip ?_
            refine FW.anew [(1, .int .u32 x1), (2, .pointer (some ⟨b1, 0, none⟩)), (10, x0v1), (11, .int .i64 (x0.spans.length : Int)), (12, .int .i64 n4)] ⟨rfl, rfl, rfl, rfl, rfl, trivial⟩ fun σ => ?_
            refine FW.region ?_
            refine U rfl rfl (V (x_bin rfl rfl rfl) ?_)
            refine U rfl rfl (V (x_movV (v := .int .i64 (i64 (n4 + 1))) rfl) ?_)
            exact ⟨q5, Nat.le_refl _, (i64 (n4 + 1)), J3, H, (Nat.le_of_succ_le hq11), ⟨rfl, rfl, rfl, rfl, rfl, trivial⟩, hL6, (S.sel 2 [1] rfl)⟩
        · rw [if_neg cc12] at H
          refine FW.condF rfl (deF cc12) ?_
          refine FW.exit ?_
          exact ⟨J3, (Option.some.inj H), ⟨rfl, trivial⟩, hL6, S⟩
    · rintro σ w ⟨J10, ho, hσ, hL6, S⟩
      subst ho
      have H := HO8
      try dsimp only at H
      have x0h1 := x0h1.mono hL6
      have hI := hI.trans hL6
      have hG := hG.mono hL6
      rw [hσ.eq]
      refine FW.seq ?_
      refine FW.region ?_
      refine U rfl rfl (V (x_fa tf59_3 rfl) ?_)
      refine U rfl rfl (V (x_ld tsc4 rfl (S.load 0 rfl 3 rfl)) ?_)
      refine U rfl rfl (V (x_asgV (v := .bool x0.not) rfl) ?_)
      refine FW.ret ?_
      obtain rfl := Option.some.inj H
      exact ⟨_, ⟨_, rfl, rfl⟩, ⟨rfl, ((S.sel 1 [] rfl).weaken hI)⟩⟩
def regex_Expr_Match.l1 : Nat → (Option T_regex_Expr) → (List Int) → T_regex_Expr → Int → (List Bool) → (List Bool) → Int → Option (List Bool)
  | 0, _, _, _, _, _, _, _ => none
  | k + 1, x0, x1, y2, n23, y30, l67, n72 => (if n72 < (y30.length : Int) then ((lat y30 n72).bind fun y86 => (if y86 = true then ((lat y2.prog n72).bind fun y96 => (if y96.op = 0 then ((lat y2.prog n72).bind fun y104 => ((lat x1 n23).bind fun y111 => ((regex_step_takes.f k y104 y111).bind fun y118 => (if y118 = true then ((regex_Expr_add.f k x0 l67 (i64 (n72 + 1)) (i64 (n23 + 1)) (x1.length : Int)).bind fun y121 => (regex_Expr_Match.l1 k x0 x1 y2 n23 y30 y121 (i64 (n72 + 1)))) else (regex_Expr_Match.l1 k x0 x1 y2 n23 y30 l67 (i64 (n72 + 1))))))) else (regex_Expr_Match.l1 k x0 x1 y2 n23 y30 l67 (i64 (n72 + 1))))) else (regex_Expr_Match.l1 k x0 x1 y2 n23 y30 l67 (i64 (n72 + 1))))) else (some l67))
def regex_Expr_Match.l0 : Nat → (Option T_regex_Expr) → (List Int) → T_regex_Expr → (List Bool) → Int → Option (Sum Bool Unit)
  | 0, _, _, _, _, _ => none
  | k + 1, x0, x1, y2, l18, n23 => ((regex_Expr_add.f k x0 l18 0 n23 (x1.length : Int)).bind fun y30 => ((lat y30 (i64 ((y2.prog.length : Int) - 1))).bind fun y34 => (if y34 = true then ((lat y30 (i64 ((y2.prog.length : Int) - 1))).bind fun y43 => (some (.inl y43))) else (if n23 = (x1.length : Int) then ((lat y30 (i64 ((y2.prog.length : Int) - 1))).bind fun y52 => (some (.inl y52))) else ((made 1 false (y2.prog.length : Int)).bind fun l60 => ((regex_Expr_Match.l1 k x0 x1 y2 n23 y30 l60 0).bind fun l79 => (regex_Expr_Match.l0 k x0 x1 y2 l79 (i64 (n23 + 1)))))))))
def regex_Expr_Match.f (k : Nat) (x0 : (Option T_regex_Expr)) (x1 : (List Int)) : Option Bool := (if x0.isNone = true then (some false) else ((x0).bind fun y2 => (if (y2.prog.length : Int) = 0 then (some false) else ((made 1 false (y2.prog.length : Int)).bind fun l11 => ((regex_Expr_Match.l0 k x0 x1 y2 l11 0).bind fun o => match o with | .inl r => some r | .inr _ => none)))))
abbrev regex_Expr_Match.C (k : Nat) : Prop := ∀ {x0 : (Option T_regex_Expr)} {x1 : (List Int)} {vx0 : Value} {vx1 : Value} {F : List It} {I : IMem} {w : World} {r : Bool}, Glob I → Own I w (F) → PtR R_regex_Expr I vx0 x0 → SlR (tInt' .u32) I vx1 x1 → regex_Expr_Match.f k x0 x1 = some r →
    Calls Tryd.prog 10 #[vx0, vx1] w fun e w' => ∃ v, e = .returned v ∧ v = .bool r ∧ Own I w' (F)
theorem regex_Expr_Match.ok (k : Nat) : regex_Expr_Match.C k := by
  intro x0 x1 vx0 vx1 F I w r hG S hx0 hx1 H
  have hI := IMem.le.refl I
  rw [regex_Expr_Match.f] at H
  refine Calls.ofFW (args := [vx0, vx1]) Tryd.func10 rfl rfl ?_
  refine FW.seq ?_
  refine FW.region ?_
  refine U rfl rfl (V (x_asgV (v := .bool false) rfl) ?_)
  refine FW.seq ?_
  refine FW.seq ?_
  refine FW.region ?_
  refine U rfl rfl (V (x_movV (v := vx0) rfl) ?_)
  refine U rfl rfl (V (x_onil (r := R_regex_Expr) tptr24 hx0 rfl) ?_)
  refine U rfl rfl (V (x_movV (v := .bool x0.isNone) rfl) ?_)
  by_cases cc1 : x0.isNone = true
  · rw [if_pos cc1] at H
    refine OK.gf rfl rfl rfl cc1 ?_
    refine OK.gf rfl rfl rfl cc1 ?_
    refine OK.gf rfl rfl rfl cc1 ?_
    refine OK.gf rfl rfl rfl cc1 ?_
    refine OK.gf rfl rfl rfl cc1 ?_
    refine OK.gf rfl rfl rfl cc1 ?_
    refine U rfl rfl (V (x_pickTV (v := .bool true) rfl cc1 rfl) ?_)
    refine FW.condT rfl rfl ?_
    refine FW.seq ?_
    refine FW.region ?_
    refine U rfl rfl (V (x_asgV (v := .bool false) rfl) ?_)
    refine FW.ret ?_
    obtain rfl := Option.some.inj H
    exact ⟨_, ⟨_, rfl, rfl⟩, ⟨rfl, (S.weaken hI)⟩⟩
  · rw [if_neg cc1] at H
    refine OK.gt rfl rfl rfl (vaF cc1) (V (x_movV (v := vx0) rfl) ?_)
    obtain ⟨y2, hy3, H⟩ := obx H
    obtain ⟨b4, o5, cs6, hv7, hr8, hc9⟩ := hx0.some hy3
    obtain ⟨y2v1, y2v2, y2v4, rfl, y2h1, y2h2, y2h4⟩ := hr8
    refine OK.gt rfl rfl rfl (vaF cc1) (V (x_nk hv7) ?_)
    refine OK.gt rfl rfl rfl (vaF cc1) (V (x_fa tf55_1 rfl) ?_)
    refine OK.gt rfl rfl rfl (vaF cc1) (V (x_ld tsc53 rfl (S.cell _ _ _ (hc9 4 _ rfl))) ?_)
    refine OK.gt rfl rfl rfl (vaF cc1) (V (x_lenD (r := R_regex_step) tsl53 y2h4) ?_)
    refine OK.gt rfl rfl rfl (vaF cc1) (V (x_bin rfl rfl rfl) ?_)
    refine U rfl rfl (V (x_pickFV (v := .bool ((y2.prog.length : Int) == 0)) rfl (vaF cc1) rfl) ?_)
    by_cases cc10 : (y2.prog.length : Int) = 0
    · rw [if_pos cc10] at H
      refine FW.condT rfl (eqT cc10) ?_
      refine FW.seq ?_
      refine FW.anew [] trivial fun σ => ?_
      refine FW.region ?_
      refine U rfl rfl (V (x_asgV (v := .bool false) rfl) ?_)
      refine FW.ret ?_
      obtain rfl := Option.some.inj H
      exact ⟨_, ⟨_, rfl, rfl⟩, ⟨rfl, (S.weaken hI)⟩⟩
    · rw [if_neg cc10] at H
      refine FW.condF rfl (eqF cc10) ?_
      refine FW.skip ?_
      refine FW.seq ?_
      refine FW.anew [(0, vx0), (1, vx1)] ⟨rfl, rfl, trivial⟩ fun σ => ?_
      refine FW.region ?_
      refine U rfl rfl (V (x_movV (v := vx0) rfl) ?_)
      refine U rfl rfl (V (x_nk hv7) ?_)
      refine U rfl rfl (V (x_fa tf55_1 rfl) ?_)
      refine U rfl rfl (V (x_ld tsc53 rfl (S.cell _ _ _ (hc9 4 _ rfl))) ?_)
      refine U rfl rfl (V (x_lenD (r := R_regex_step) tsl53 y2h4) ?_)
      refine U rfl rfl (V (x_bin rfl rfl rfl) ?_)
      refine U rfl rfl (V (x_asgV (v := .int .i64 (i64 ((y2.prog.length : Int) - 1))) rfl) ?_)
      refine FW.seq ?_
      refine FW.anew [(0, vx0), (1, vx1), (5, .int .i64 (i64 ((y2.prog.length : Int) - 1)))] ⟨rfl, rfl, rfl, trivial⟩ fun σ => ?_
      refine FW.region ?_
      refine U rfl rfl (V (x_movV (v := vx0) rfl) ?_)
      refine U rfl rfl (V (x_nk hv7) ?_)
      refine U rfl rfl (V (x_fa tf55_1 rfl) ?_)
      refine U rfl rfl (V (x_ld tsc53 rfl (S.cell _ _ _ (hc9 4 _ rfl))) ?_)
      refine U rfl rfl (V (x_lenD (r := R_regex_step) tsl53 y2h4) ?_)
      obtain ⟨l11, h13, H⟩ := obx H
      refine U rfl rfl (o_mk (r := tBool) (x0 := false) tsl64 tz4 rfl rfl rfl rfl rfl h13 rfl S fun v12 w a15 S h14 => ?_)
      refine U rfl rfl (V (x_asgV (v := v12) rfl) ?_)
      refine FW.seq ?_
      refine FW.anew [(0, vx0), (1, vx1), (5, .int .i64 (i64 ((y2.prog.length : Int) - 1))), (6, v12)] ⟨rfl, rfl, rfl, rfl, trivial⟩ fun σ => ?_
      refine FW.region ?_
      refine U rfl rfl (V (x_asgV (v := .int .i64 0) rfl) ?_)
      refine FW.block ?_
      obtain ⟨o26, hl28, HO27⟩ := obx H
      ·
        refine FW.loop k (FL.ind (fun q σ w => ∃ (l18 : (List Bool)) (n23 : Int) (v19 : Value) (a20 : List Value) (J17 : IMem), regex_Expr_Match.l0 q x0 x1 y2 l18 n23 = some o26 ∧ q ≤ k ∧ Has σ [(0, vx0), (1, vx1), (5, .int .i64 (i64 ((y2.prog.length : Int) - 1))), (6, v19), (7, .int .i64 n23)] ∧ I.le J17 ∧ Own J17 w (.av v19 4 1 a20 :: F) ∧ Flat tBool J17 a20 l18) ?_ ?_ k k _ _ (Nat.le_refl _) ⟨l11, 0, v12, a15, I, hl28, Nat.le_refl _, ⟨rfl, rfl, rfl, rfl, rfl, trivial⟩, (IMem.le.refl _), S, h14⟩)
        · rintro σ w ⟨l18, n23, v19, a20, J17, H, _⟩; cases H
        · rintro q24 σ w ⟨l18, n23, v19, a20, J17, H, hq29, hσ, hL25, S, h21⟩
          have hx0 := hx0.mono hL25
          have hx1 := hx1.mono hL25
          have hc9 := hc9.mono hL25
          have y2h1 := y2h1.mono hL25
          have y2h2 := y2h2.mono hL25
          have y2h4 := y2h4.mono hL25
          have hI := hI.trans hL25
          have hG := hG.mono hL25
          rw [hσ.eq]
          rw [regex_Expr_Match.l0] at H
          refine FW.seq ?_
          refine FW.block ?_
          refine FW.seq ?_
          refine FW.region ?_
          refine U rfl rfl (V (x_movV (v := vx0) rfl) ?_)
          refine U rfl rfl (V (x_movV (v := v19) rfl) ?_)
          refine U rfl rfl (V (x_movV (v := .int .i64 n23) rfl) ?_)
          refine U rfl rfl (V (x_movV (v := vx1) rfl) ?_)
          refine U rfl rfl (V (x_lenD (r := (tInt' .u32)) tsl22 hx1) ?_)
          obtain ⟨y30, hy31, H⟩ := obx H
          refine U rfl rfl (cl fb22 (@regex_Expr_add.ok q24 x0 l18 0 n23 (x1.length : Int) _ _ _ _ _ _ _ hG S hx0 h21 hy31) rfl ?_)
          rintro _ w ⟨cy30_0, J32, hJ33, rfl, hy30_0, S⟩
          have hx0 := hx0.mono hJ33
          have hx1 := hx1.mono hJ33
          have hc9 := hc9.mono hJ33
          have y2h1 := y2h1.mono hJ33
          have y2h2 := y2h2.mono hJ33
          have y2h4 := y2h4.mono hJ33
          have hI := hI.trans hJ33
          have hL25 := hL25.trans hJ33
          have hG := hG.mono hJ33
          refine FW.seq ?_
          refine FW.seq ?_
          refine FW.region ?_
          refine U rfl rfl (V (x_movV (v := v19) rfl) ?_)
          refine U rfl rfl (V (x_movV (v := .int .i64 (i64 ((y2.prog.length : Int) - 1))) rfl) ?_)
          obtain ⟨y34, h35, H⟩ := obx H
          refine U rfl rfl (o_iaV (r := tBool) tsl64 rfl rfl S 0 rfl hy30_0 rfl h35 fun b36 cs37 cc38 hv39 hr40 hc41 => ?_)
          obtain rfl := hr40
          refine U rfl rfl (V (x_ld tsc4 rfl (S.loadV 0 rfl hv39 (hc41 0 _ rfl))) ?_)
          refine U rfl rfl (V (x_movV (v := .bool y34) rfl) ?_)
          by_cases cc42 : y34 = true
          · rw [if_pos cc42] at H
            refine OK.gf rfl rfl rfl cc42 ?_
            refine OK.gf rfl rfl rfl cc42 ?_
            refine OK.gf rfl rfl rfl cc42 ?_
            refine OK.gf rfl rfl rfl cc42 ?_
            refine U rfl rfl (V (x_pickTV (v := .bool true) rfl cc42 rfl) ?_)
            refine FW.condT rfl rfl ?_
            refine FW.seq ?_
            refine FW.anew [(5, .int .i64 (i64 ((y2.prog.length : Int) - 1))), (6, v19)] ⟨rfl, rfl, trivial⟩ fun σ => ?_
            refine FW.region ?_
            refine U rfl rfl (V (x_movV (v := v19) rfl) ?_)
            refine U rfl rfl (V (x_movV (v := .int .i64 (i64 ((y2.prog.length : Int) - 1))) rfl) ?_)
            obtain ⟨y43, h44, H⟩ := obx H
            refine U rfl rfl (o_iaV (r := tBool) tsl64 rfl rfl S 0 rfl hy30_0 rfl h44 fun b45 cs46 cc47 hv48 hr49 hc50 => ?_)
            obtain rfl := hr49
            refine U rfl rfl (V (x_ld tsc4 rfl (S.loadV 0 rfl hv48 (hc50 0 _ rfl))) ?_)
            refine U rfl rfl (V (x_asgV (v := .bool y43) rfl) ?_)
            refine FW.ret ?_
            obtain rfl := Option.some.inj H
            obtain rfl := Option.some.inj HO27
            exact ⟨_, ⟨_, rfl, rfl⟩, ⟨rfl, ((S.sel 1 [] rfl).weaken hI)⟩⟩
          · rw [if_neg cc42] at H
            refine OK.gt rfl rfl rfl (vaF cc42) (V (x_movV (v := .int .i64 n23) rfl) ?_)
            refine OK.gt rfl rfl rfl (vaF cc42) (V (x_movV (v := vx1) rfl) ?_)
            refine OK.gt rfl rfl rfl (vaF cc42) (V (x_lenD (r := (tInt' .u32)) tsl22 hx1) ?_)
            refine OK.gt rfl rfl rfl (vaF cc42) (V (x_bin rfl rfl rfl) ?_)
            refine U rfl rfl (V (x_pickFV (v := .bool (n23 == (x1.length : Int))) rfl (vaF cc42) rfl) ?_)
            by_cases cc51 : n23 = (x1.length : Int)
            · rw [if_pos cc51] at H
              refine FW.condT rfl (eqT cc51) ?_
              refine FW.seq ?_
              refine FW.anew [(5, .int .i64 (i64 ((y2.prog.length : Int) - 1))), (6, v19)] ⟨rfl, rfl, trivial⟩ fun σ => ?_
              refine FW.region ?_
              refine U rfl rfl (V (x_movV (v := v19) rfl) ?_)
              refine U rfl rfl (V (x_movV (v := .int .i64 (i64 ((y2.prog.length : Int) - 1))) rfl) ?_)
              obtain ⟨y52, h53, H⟩ := obx H
              refine U rfl rfl (o_iaV (r := tBool) tsl64 rfl rfl S 0 rfl hy30_0 rfl h53 fun b54 cs55 cc56 hv57 hr58 hc59 => ?_)
              obtain rfl := hr58
              refine U rfl rfl (V (x_ld tsc4 rfl (S.loadV 0 rfl hv57 (hc59 0 _ rfl))) ?_)
              refine U rfl rfl (V (x_asgV (v := .bool y52) rfl) ?_)
              refine FW.ret ?_
              obtain rfl := Option.some.inj H
              obtain rfl := Option.some.inj HO27
              exact ⟨_, ⟨_, rfl, rfl⟩, ⟨rfl, ((S.sel 1 [] rfl).weaken hI)⟩⟩
            · rw [if_neg cc51] at H
              refine FW.condF rfl (eqF cc51) ?_
              refine FW.skip ?_
              refine FW.seq ?_
              refine FW.anew [(0, vx0), (1, vx1), (5, .int .i64 (i64 ((y2.prog.length : Int) - 1))), (6, v19), (7, .int .i64 n23)] ⟨rfl, rfl, rfl, rfl, rfl, trivial⟩ fun σ => ?_
              refine FW.region ?_
              refine U rfl rfl (V (x_movV (v := vx0) rfl) ?_)
              refine U rfl rfl (V (x_nk hv7) ?_)
              refine U rfl rfl (V (x_fa tf55_1 rfl) ?_)
              refine U rfl rfl (V (x_ld tsc53 rfl (S.cell _ _ _ (hc9 4 _ rfl))) ?_)
              refine U rfl rfl (V (x_lenD (r := R_regex_step) tsl53 y2h4) ?_)
              obtain ⟨l60, h62, H⟩ := obx H
              refine U rfl rfl (o_mk (r := tBool) (x0 := false) tsl64 tz4 rfl rfl rfl rfl rfl h62 rfl S fun v61 w a64 S h63 => ?_)
              refine U rfl rfl (V (x_asgV (v := v61) rfl) ?_)
              refine FW.seq ?_
              refine FW.seq ?_
              refine FW.anew [(0, vx0), (1, vx1), (5, .int .i64 (i64 ((y2.prog.length : Int) - 1))), (6, v19), (7, .int .i64 n23), (8, v61)] ⟨rfl, rfl, rfl, rfl, rfl, rfl, trivial⟩ fun σ => ?_
              refine FW.region ?_
              refine U rfl rfl (V (x_movV (v := v19) rfl) ?_)
              refine U rfl rfl (V (x_lenV (r := tBool) tsl64 rfl rfl S 1 rfl hy30_0) ?_)
              refine U rfl rfl (V (x_movV (v := .int .i64 0) rfl) ?_)
              refine FW.block ?_
              obtain ⟨o75, hl77, HO76⟩ := obx H
              refine FW.cutX 2 (fun σ w => ∃ (l79 : (List Bool)) (v80 : Value) (a81 : List Value) (J78 : IMem), l79 = o75 ∧ Has σ [(0, vx0), (1, vx1), (5, .int .i64 (i64 ((y2.prog.length : Int) - 1))), (7, .int .i64 n23), (8, v80)] ∧ J32.le J78 ∧ Own J78 w (.av v80 4 1 a81 :: F) ∧ Flat tBool J78 a81 l79) ?_ ?_
              ·
                refine FW.loop q24 (FL.ind (fun q σ w => ∃ (l67 : (List Bool)) (n72 : Int) (v68 : Value) (a69 : List Value) (J66 : IMem), regex_Expr_Match.l1 q x0 x1 y2 n23 y30 l67 n72 = some o75 ∧ q ≤ q24 ∧ Has σ [(0, vx0), (1, vx1), (5, .int .i64 (i64 ((y2.prog.length : Int) - 1))), (7, .int .i64 n23), (8, v68), (61, v19), (62, .int .i64 (y30.length : Int)), (63, .int .i64 n72)] ∧ J32.le J66 ∧ Own J66 w (.av v19 4 1 cy30_0 :: .av v68 4 1 a69 :: F) ∧ Flat tBool J66 a69 l67) ?_ ?_ q24 q24 _ _ (Nat.le_refl _) ⟨l60, 0, v61, a64, J32, hl77, Nat.le_refl _, ⟨rfl, rfl, rfl, rfl, rfl, rfl, rfl, rfl, trivial⟩, (IMem.le.refl _), (S.sel 2 [1, 0] rfl), h63⟩)
                · rintro σ w ⟨l67, n72, v68, a69, J66, H, _⟩; cases H
                · rintro q73 σ w ⟨l67, n72, v68, a69, J66, H, hq84, hσ, hL74, S, h70⟩
                  have hx0 := hx0.mono hL74
                  have hx1 := hx1.mono hL74
                  have hc9 := hc9.mono hL74
                  have y2h1 := y2h1.mono hL74
                  have y2h2 := y2h2.mono hL74
                  have y2h4 := y2h4.mono hL74
                  have hy30_0 := hy30_0.mono hL74
                  have hI := hI.trans hL74
                  have hL25 := hL25.trans hL74
                  have hG := hG.mono hL74
                  rw [hσ.eq]
                  rw [regex_Expr_Match.l1] at H
                  refine FW.seq ?_
                  refine FW.region ?_
                  refine U rfl rfl (V (x_bin rfl rfl rfl) ?_)
                  refine FW.seq ?_
                  by_cases cc85 : n72 < (y30.length : Int)
                  · rw [if_pos cc85] at H
                    refine FW.condT rfl (deT cc85) ?_
                    refine FW.skip ?_
                    refine FW.seq ?_
                    refine FW.block ?_
                    refine FW.seq ?_
                    refine FW.region ?_
                    refine U rfl rfl (V (x_movV (v := .int .i64 n72) rfl) ?_)
                    obtain ⟨y86, h87, H⟩ := obx H
                    refine U rfl rfl (o_iaV (r := tBool) tsl64 rfl rfl S 0 rfl hy30_0 rfl h87 fun b88 cs89 cc90 hv91 hr92 hc93 => ?_)
                    obtain rfl := hr92
                    refine U rfl rfl (V (x_ld tsc4 rfl (S.loadV 0 rfl hv91 (hc93 0 _ rfl))) ?_)
                    refine U rfl rfl (V (x_asgV (v := .int .i64 n72) rfl) ?_)
                    refine U rfl rfl (V (x_asgV (v := .bool y86) rfl) ?_)
                    refine FW.seq ?_
                    have S := S.drew
                    refine FW.regionD mixed ?_
                    have hO := Hold.nil (w := { w with drawn := w.drawn + 1 })
                    refine AQ.pure 0 rfl (by kernel_rfl) (by kernel_rfl) (by kernel_rfl) rfl hO (fun w => x_movV (v := .bool y86) rfl) ?_
                    refine AQ.pure 1 rfl (by kernel_rfl) (by kernel_rfl) (by kernel_rfl) rfl hO (fun w => x_movV (v := .bool y86) rfl) ?_
                    by_cases cc94 : y86 = true
                    · rw [if_pos cc94] at H
                      refine AQ.pure 2 rfl (by kernel_rfl) (by kernel_rfl) (by kernel_rfl) (gT rfl rfl cc94) hO (fun w => x_movV (v := vx0) rfl) ?_
                      refine AQ.pure 3 rfl (by kernel_rfl) (by kernel_rfl) (by kernel_rfl) (gT rfl rfl cc94) hO (fun w => x_nk hv7) ?_
                      refine AQ.pure 4 rfl (by kernel_rfl) (by kernel_rfl) (by kernel_rfl) (gT rfl rfl cc94) hO (fun w => x_fa tf55_1 rfl) ?_
                      have hR95 := IMem.le.refl J66
                      refine AQ.take (S := Stab J66 []) 5 rfl (by kernel_rfl) (by kernel_rfl) (by kernel_rfl) (gT rfl rfl cc94) hO (Stab.nil S hR95) (fun w hS => x_ld tsc53 rfl (hS.cell _ _ _ (hc9 4 _ rfl))) fun hO => ?_
                      refine AQ.pure 6 rfl (by kernel_rfl) (by kernel_rfl) (by kernel_rfl) (gT rfl rfl cc94) hO (fun w => x_movV (v := .int .i64 n72) rfl) ?_
                      obtain ⟨y96, h97, H⟩ := obx H
                      refine AQ.pureE 7 rfl (by kernel_rfl) (by kernel_rfl) (by kernel_rfl) (gT rfl rfl cc94) hO (e_ia (r := R_regex_step) tsl53 rfl rfl y2h4 rfl h97) ?_
                      rintro _ ⟨b98, o99, cs100, rfl, hr101, hc102⟩
                      obtain ⟨y96v1, rfl, y96h1⟩ := hr101
                      refine AQ.pure 8 rfl (by kernel_rfl) (by kernel_rfl) (by kernel_rfl) (gT rfl rfl cc94) hO (fun w => x_fa tf59_0 rfl) ?_
                      refine AQ.take (S := Stab J66 []) 9 rfl (by kernel_rfl) (by kernel_rfl) (by kernel_rfl) (gT rfl rfl cc94) hO (Stab.nil S hR95) (fun w hS => x_ld tsc3 rfl (hS.cell _ _ _ (hc102 0 _ rfl))) fun hO => ?_
                      refine AQ.pure 10 rfl (by kernel_rfl) (by kernel_rfl) (by kernel_rfl) (gT rfl rfl cc94) hO (fun w => x_bin rfl rfl rfl) ?_
                      refine AQ.pure 11 rfl (by kernel_rfl) (by kernel_rfl) (by kernel_rfl) rfl hO (fun w => x_pickTV (v := .bool (y96.op == 0)) rfl cc94 rfl) ?_
                      refine AQ.pure 12 rfl (by kernel_rfl) (by kernel_rfl) (by kernel_rfl) rfl hO (fun w => x_movV (v := .bool (y96.op == 0)) rfl) ?_
                      by_cases cc103 : y96.op = 0
                      · rw [if_pos cc103] at H
                        refine AQ.pure 13 rfl (by kernel_rfl) (by kernel_rfl) (by kernel_rfl) (gT rfl rfl (eqT cc103)) hO (fun w => x_movV (v := vx0) rfl) ?_
                        refine AQ.pure 14 rfl (by kernel_rfl) (by kernel_rfl) (by kernel_rfl) (gT rfl rfl (eqT cc103)) hO (fun w => x_nk hv7) ?_
                        refine AQ.pure 15 rfl (by kernel_rfl) (by kernel_rfl) (by kernel_rfl) (gT rfl rfl (eqT cc103)) hO (fun w => x_fa tf55_1 rfl) ?_
                        refine AQ.take (S := Stab J66 []) 16 rfl (by kernel_rfl) (by kernel_rfl) (by kernel_rfl) (gT rfl rfl (eqT cc103)) hO (Stab.nil S hR95) (fun w hS => x_ld tsc53 rfl (hS.cell _ _ _ (hc9 4 _ rfl))) fun hO => ?_
                        refine AQ.pure 17 rfl (by kernel_rfl) (by kernel_rfl) (by kernel_rfl) (gT rfl rfl (eqT cc103)) hO (fun w => x_movV (v := .int .i64 n72) rfl) ?_
                        obtain ⟨y104, h105, H⟩ := obx H
                        refine AQ.pureE 18 rfl (by kernel_rfl) (by kernel_rfl) (by kernel_rfl) (gT rfl rfl (eqT cc103)) hO (e_ia (r := R_regex_step) tsl53 rfl rfl y2h4 rfl h105) ?_
                        rintro _ ⟨b106, o107, cs108, rfl, hr109, hc110⟩
                        obtain ⟨y104v1, rfl, y104h1⟩ := hr109
                        refine AQ.take (S := Stab J66 []) 19 rfl (by kernel_rfl) (by kernel_rfl) (by kernel_rfl) (gT rfl rfl (eqT cc103)) hO (Stab.nil S hR95) (fun w hS => x_ldA tag59 rfl (hS.loadI hc110) rfl) fun hO => ?_
                        refine AQ.pure 20 rfl (by kernel_rfl) (by kernel_rfl) (by kernel_rfl) (gT rfl rfl (eqT cc103)) hO (fun w => x_movV (v := vx1) rfl) ?_
                        refine AQ.pure 21 rfl (by kernel_rfl) (by kernel_rfl) (by kernel_rfl) (gT rfl rfl (eqT cc103)) hO (fun w => x_movV (v := .int .i64 n23) rfl) ?_
                        obtain ⟨y111, h112, H⟩ := obx H
                        refine AQ.pureE 22 rfl (by kernel_rfl) (by kernel_rfl) (by kernel_rfl) (gT rfl rfl (eqT cc103)) hO (e_ia (r := (tInt' .u32)) tsl22 rfl rfl hx1 rfl h112) ?_
                        rintro _ ⟨b113, o114, cs115, rfl, hr116, hc117⟩
                        obtain rfl := hr116
                        refine AQ.take (S := Stab J66 []) 23 rfl (by kernel_rfl) (by kernel_rfl) (by kernel_rfl) (gT rfl rfl (eqT cc103)) hO (Stab.nil S hR95) (fun w hS => x_ld tsc38 rfl (hS.cell _ _ _ (hc117 0 _ rfl))) fun hO => ?_
                        refine AQ.one 24 [23, 19, 16, 9, 5] [false, false, true, true, true] (by kernel_rfl) rfl (by kernel_rfl) ?_
                        obtain ⟨y118, hy119, H⟩ := obx H
                        refine OK.gt rfl rfl rfl (eqT cc103) (cl fb23 (@regex_step_takes.ok q73 y104 y111 _ _ _ _ _ hG S y104h1 hy119) rfl ?_)
                        rintro _ w ⟨rfl, S⟩
                        refine andI (Hold.cons (Stab.nil S hR95) (Hold.cons (Stab.nil S hR95) (Hold.cons (Stab.nil S hR95) Hold.nil))) fun hO => ?_
                        refine AQ.pure 25 rfl (by kernel_rfl) (by kernel_rfl) (by kernel_rfl) rfl hO (fun w => x_pickTV (v := .bool y118) rfl (eqT cc103) rfl) ?_
                        refine AQ.done (by kernel_rfl) ?_
                        by_cases cc120 : y118 = true
                        · rw [if_pos cc120] at H
                          refine FW.condT rfl cc120 ?_
                          refine FW.anew [(0, vx0), (1, vx1), (5, .int .i64 (i64 ((y2.prog.length : Int) - 1))), (7, .int .i64 n23), (8, v68), (9, .int .i64 n72), (61, v19), (62, .int .i64 (y30.length : Int)), (63, .int .i64 n72)] ⟨rfl, rfl, rfl, rfl, rfl, rfl, rfl, rfl, rfl, trivial⟩ fun σ => ?_
                          refine FW.region ?_
                          refine U rfl rfl (V (x_movV (v := vx0) rfl) ?_)
                          refine U rfl rfl (V (x_movV (v := v68) rfl) ?_)
                          refine U rfl rfl (V (x_movV (v := .int .i64 n72) rfl) ?_)
                          refine U rfl rfl (V (x_bin rfl rfl rfl) ?_)
                          refine U rfl rfl (V (x_movV (v := .int .i64 n23) rfl) ?_)
                          refine U rfl rfl (V (x_bin rfl rfl rfl) ?_)
                          refine U rfl rfl (V (x_movV (v := vx1) rfl) ?_)
                          refine U rfl rfl (V (x_lenD (r := (tInt' .u32)) tsl22 hx1) ?_)
                          obtain ⟨y121, hy122, H⟩ := obx H
                          refine U rfl rfl (cl fb22 (@regex_Expr_add.ok q73 x0 l67 (i64 (n72 + 1)) (i64 (n23 + 1)) (x1.length : Int) _ _ _ _ _ _ _ hG (S.sel 2 [1, 0] rfl) hx0 h70 hy122) rfl ?_)
                          rintro _ w ⟨cy121_0, J123, hJ124, rfl, hy121_0, S⟩
                          have hx0 := hx0.mono hJ124
                          have hx1 := hx1.mono hJ124
                          have hc9 := hc9.mono hJ124
                          have y2h1 := y2h1.mono hJ124
                          have y2h2 := y2h2.mono hJ124
                          have y2h4 := y2h4.mono hJ124
                          have hy30_0 := hy30_0.mono hJ124
                          have hI := hI.trans hJ124
                          have hL25 := hL25.trans hJ124
                          have hL74 := hL74.trans hJ124
                          have hG := hG.mono hJ124
                          refine FW.anew [(0, vx0), (1, vx1), (5, .int .i64 (i64 ((y2.prog.length : Int) - 1))), (7, .int .i64 n23), (8, v68), (61, v19), (62, .int .i64 (y30.length : Int)), (63, .int .i64 n72)] ⟨rfl, rfl, rfl, rfl, rfl, rfl, rfl, rfl, trivial⟩ fun σ => ?_
                          refine FW.region ?_
                          refine U rfl rfl (V (x_bin rfl rfl rfl) ?_)
                          refine U rfl rfl (V (x_movV (v := .int .i64 (i64 (n72 + 1))) rfl) ?_)
                          exact ⟨q73, Nat.le_refl _, y121, (i64 (n72 + 1)), v68, cy121_0, J123, H, (Nat.le_of_succ_le hq84), ⟨rfl, rfl, rfl, rfl, rfl, rfl, rfl, rfl, trivial⟩, hL74, (S.sel 2 [1, 0] rfl), hy121_0⟩
                        · rw [if_neg cc120] at H
                          refine FW.condF rfl (vaF cc120) ?_
                          refine FW.skip ?_
                          refine FW.anew [(0, vx0), (1, vx1), (5, .int .i64 (i64 ((y2.prog.length : Int) - 1))), (7, .int .i64 n23), (8, v68), (61, v19), (62, .int .i64 (y30.length : Int)), (63, .int .i64 n72)] ⟨rfl, rfl, rfl, rfl, rfl, rfl, rfl, rfl, trivial⟩ fun σ => ?_
                          refine FW.region ?_
                          refine U rfl rfl (V (x_bin rfl rfl rfl) ?_)
                          refine U rfl rfl (V (x_movV (v := .int .i64 (i64 (n72 + 1))) rfl) ?_)
                          exact ⟨q73, Nat.le_refl _, l67, (i64 (n72 + 1)), v68, a69, J66, H, (Nat.le_of_succ_le hq84), ⟨rfl, rfl, rfl, rfl, rfl, rfl, rfl, rfl, trivial⟩, hL74, S, h70⟩
                      · rw [if_neg cc103] at H
                        refine AQ.skip 13 rfl (by kernel_rfl) (by kernel_rfl) (by kernel_rfl) rfl rfl (eqF cc103) hO ?_
                        refine AQ.skip 14 rfl (by kernel_rfl) (by kernel_rfl) (by kernel_rfl) rfl rfl (eqF cc103) hO ?_
                        refine AQ.skip 15 rfl (by kernel_rfl) (by kernel_rfl) (by kernel_rfl) rfl rfl (eqF cc103) hO ?_
                        refine AQ.skip 16 rfl (by kernel_rfl) (by kernel_rfl) (by kernel_rfl) rfl rfl (eqF cc103) hO ?_
                        refine AQ.skip 17 rfl (by kernel_rfl) (by kernel_rfl) (by kernel_rfl) rfl rfl (eqF cc103) hO ?_
                        refine AQ.skip 18 rfl (by kernel_rfl) (by kernel_rfl) (by kernel_rfl) rfl rfl (eqF cc103) hO ?_
                        refine AQ.skip 19 rfl (by kernel_rfl) (by kernel_rfl) (by kernel_rfl) rfl rfl (eqF cc103) hO ?_
                        refine AQ.skip 20 rfl (by kernel_rfl) (by kernel_rfl) (by kernel_rfl) rfl rfl (eqF cc103) hO ?_
                        refine AQ.skip 21 rfl (by kernel_rfl) (by kernel_rfl) (by kernel_rfl) rfl rfl (eqF cc103) hO ?_
                        refine AQ.skip 22 rfl (by kernel_rfl) (by kernel_rfl) (by kernel_rfl) rfl rfl (eqF cc103) hO ?_
                        refine AQ.skip 23 rfl (by kernel_rfl) (by kernel_rfl) (by kernel_rfl) rfl rfl (eqF cc103) hO ?_
                        refine AQ.skip 24 rfl (by kernel_rfl) (by kernel_rfl) (by kernel_rfl) rfl rfl (eqF cc103) hO ?_
                        refine AQ.pure 25 rfl (by kernel_rfl) (by kernel_rfl) (by kernel_rfl) rfl hO (fun w => x_pickFV (v := .bool false) rfl (eqF cc103) rfl) ?_
                        refine AQ.done (by kernel_rfl) ?_
                        refine FW.condF rfl rfl ?_
                        refine FW.skip ?_
                        refine FW.anew [(0, vx0), (1, vx1), (5, .int .i64 (i64 ((y2.prog.length : Int) - 1))), (7, .int .i64 n23), (8, v68), (61, v19), (62, .int .i64 (y30.length : Int)), (63, .int .i64 n72)] ⟨rfl, rfl, rfl, rfl, rfl, rfl, rfl, rfl, trivial⟩ fun σ => ?_
                        refine FW.region ?_
                        refine U rfl rfl (V (x_bin rfl rfl rfl) ?_)
                        refine U rfl rfl (V (x_movV (v := .int .i64 (i64 (n72 + 1))) rfl) ?_)
                        exact ⟨q73, Nat.le_refl _, l67, (i64 (n72 + 1)), v68, a69, J66, H, (Nat.le_of_succ_le hq84), ⟨rfl, rfl, rfl, rfl, rfl, rfl, rfl, rfl, trivial⟩, hL74, S, h70⟩
                    · rw [if_neg cc94] at H
                      refine AQ.skip 2 rfl (by kernel_rfl) (by kernel_rfl) (by kernel_rfl) rfl rfl (vaF cc94) hO ?_
                      refine AQ.skip 3 rfl (by kernel_rfl) (by kernel_rfl) (by kernel_rfl) rfl rfl (vaF cc94) hO ?_
                      refine AQ.skip 4 rfl (by kernel_rfl) (by kernel_rfl) (by kernel_rfl) rfl rfl (vaF cc94) hO ?_
                      refine AQ.skip 5 rfl (by kernel_rfl) (by kernel_rfl) (by kernel_rfl) rfl rfl (vaF cc94) hO ?_
                      refine AQ.skip 6 rfl (by kernel_rfl) (by kernel_rfl) (by kernel_rfl) rfl rfl (vaF cc94) hO ?_
                      refine AQ.skip 7 rfl (by kernel_rfl) (by kernel_rfl) (by kernel_rfl) rfl rfl (vaF cc94) hO ?_
                      refine AQ.skip 8 rfl (by kernel_rfl) (by kernel_rfl) (by kernel_rfl) rfl rfl (vaF cc94) hO ?_
                      refine AQ.skip 9 rfl (by kernel_rfl) (by kernel_rfl) (by kernel_rfl) rfl rfl (vaF cc94) hO ?_
                      refine AQ.skip 10 rfl (by kernel_rfl) (by kernel_rfl) (by kernel_rfl) rfl rfl (vaF cc94) hO ?_
                      refine AQ.pure 11 rfl (by kernel_rfl) (by kernel_rfl) (by kernel_rfl) rfl hO (fun w => x_pickFV (v := .bool false) rfl (vaF cc94) rfl) ?_
                      refine AQ.pure 12 rfl (by kernel_rfl) (by kernel_rfl) (by kernel_rfl) rfl hO (fun w => x_movV (v := .bool false) rfl) ?_
                      refine AQ.skip 13 rfl (by kernel_rfl) (by kernel_rfl) (by kernel_rfl) rfl rfl rfl hO ?_
                      refine AQ.skip 14 rfl (by kernel_rfl) (by kernel_rfl) (by kernel_rfl) rfl rfl rfl hO ?_
                      refine AQ.skip 15 rfl (by kernel_rfl) (by kernel_rfl) (by kernel_rfl) rfl rfl rfl hO ?_
                      refine AQ.skip 16 rfl (by kernel_rfl) (by kernel_rfl) (by kernel_rfl) rfl rfl rfl hO ?_
                      refine AQ.skip 17 rfl (by kernel_rfl) (by kernel_rfl) (by kernel_rfl) rfl rfl rfl hO ?_
                      refine AQ.skip 18 rfl (by kernel_rfl) (by kernel_rfl) (by kernel_rfl) rfl rfl rfl hO ?_
                      refine AQ.skip 19 rfl (by kernel_rfl) (by kernel_rfl) (by kernel_rfl) rfl rfl rfl hO ?_
                      refine AQ.skip 20 rfl (by kernel_rfl) (by kernel_rfl) (by kernel_rfl) rfl rfl rfl hO ?_
                      refine AQ.skip 21 rfl (by kernel_rfl) (by kernel_rfl) (by kernel_rfl) rfl rfl rfl hO ?_
                      refine AQ.skip 22 rfl (by kernel_rfl) (by kernel_rfl) (by kernel_rfl) rfl rfl rfl hO ?_
                      refine AQ.skip 23 rfl (by kernel_rfl) (by kernel_rfl) (by kernel_rfl) rfl rfl rfl hO ?_
                      refine AQ.skip 24 rfl (by kernel_rfl) (by kernel_rfl) (by kernel_rfl) rfl rfl rfl hO ?_
                      refine AQ.pure 25 rfl (by kernel_rfl) (by kernel_rfl) (by kernel_rfl) rfl hO (fun w => x_pickFV (v := .bool false) rfl rfl rfl) ?_
                      refine AQ.done (by kernel_rfl) ?_
                      refine FW.condF rfl rfl ?_
                      refine FW.skip ?_
                      refine FW.anew [(0, vx0), (1, vx1), (5, .int .i64 (i64 ((y2.prog.length : Int) - 1))), (7, .int .i64 n23), (8, v68), (61, v19), (62, .int .i64 (y30.length : Int)), (63, .int .i64 n72)] ⟨rfl, rfl, rfl, rfl, rfl, rfl, rfl, rfl, trivial⟩ fun σ => ?_
                      refine FW.region ?_
                      refine U rfl rfl (V (x_bin rfl rfl rfl) ?_)
                      refine U rfl rfl (V (x_movV (v := .int .i64 (i64 (n72 + 1))) rfl) ?_)
                      exact ⟨q73, Nat.le_refl _, l67, (i64 (n72 + 1)), v68, a69, J66, H, (Nat.le_of_succ_le hq84), ⟨rfl, rfl, rfl, rfl, rfl, rfl, rfl, rfl, trivial⟩, hL74, S, h70⟩
                  · rw [if_neg cc85] at H
                    refine FW.condF rfl (deF cc85) ?_
                    refine FW.exit ?_
                    exact ⟨l67, v68, a69, J66, (Option.some.inj H), ⟨rfl, rfl, rfl, rfl, rfl, trivial⟩, hL74, (S.sel 2 [1] rfl), h70⟩
              · rintro σ w ⟨l79, v80, a81, J78, ho, hσ, hL74, S, h82⟩
                subst ho
                have H := HO76
                have hx0 := hx0.mono hL74
                have hx1 := hx1.mono hL74
                have hc9 := hc9.mono hL74
                have y2h1 := y2h1.mono hL74
                have y2h2 := y2h2.mono hL74
                have y2h4 := y2h4.mono hL74
                have hI := hI.trans hL74
                have hL25 := hL25.trans hL74
                have hG := hG.mono hL74
                rw [hσ.eq]
                refine FW.region ?_
                refine U rfl rfl (V (x_movV (v := v80) rfl) ?_)
                refine U rfl rfl (V (x_asgV (v := v80) rfl) ?_)
                refine FW.region ?_
                refine U rfl rfl (V (x_movV (v := .int .i64 n23) rfl) ?_)
                refine U rfl rfl (V (x_bin rfl rfl rfl) ?_)
                refine U rfl rfl (V (x_asgV (v := .int .i64 (i64 (n23 + 1))) rfl) ?_)
                exact ⟨q24, Nat.le_refl _, l79, (i64 (n23 + 1)), v80, a81, J78, H, (Nat.le_of_succ_le hq29), ⟨rfl, rfl, rfl, rfl, rfl, trivial⟩, hL25, S, h82⟩
def strings_Join.f (_k : Nat) (x0 : List ByteArray) (x1 : ByteArray) : Option ByteArray :=
  if x0.length ≤ 140737488355328 ∧ (Lib.join (x0.map (·.data.toList)) x1.data.toList).length ≤ 281474976710656 then some ⟨(Lib.join (x0.map (·.data.toList)) x1.data.toList).toArray⟩ else none
abbrev strings_Join.C (k : Nat) : Prop := ∀ {x0 : (List ByteArray)} {x1 : ByteArray} {vx0 : Value} {F : List It} {I : IMem} {w : World} {r : ByteArray}, Glob I → Own I w (F) → SlR tString I vx0 x0 → strings_Join.f k x0 x1 = some r →
    Calls Tryd.prog 40 #[vx0, .string x1] w fun e w' => ∃ v, e = .returned v ∧ v = .string r ∧ Own I w' (F)
theorem strFlat {I : IMem} : ∀ {l : List ByteArray} {cs : List Value}, Flat tString I cs l → cs = l.map Value.string
  | [], _, h => h
  | x :: l, _, ⟨c, cs', e, h1, h2⟩ => by
    obtain rfl : c = [.string x] := h1
    rw [e, strFlat h2]; rfl
theorem strings_Join.ok (k : Nat) : strings_Join.C k := by
  intro x0 x1 vx0 F I w r hG S hx0 H
  unfold strings_Join.f at H
  split at H
  · rename_i hh
    obtain rfl := Option.some.inj H
    obtain ⟨A, c, cs, rfl, k2, k3, k4, k5⟩ := hx0
    obtain rfl := strFlat k4
    cases x0 with
    | nil =>
      refine (Any.strings_Join_none laysJoin laysJoinX A c x1 w).mono ?_
      rintro e w' ⟨rfl, rfl⟩
      exact ⟨_, rfl, rfl, S⟩
    | cons y ys =>
      obtain ⟨a, rfl, hs, h6⟩ := k5.resolve_left (by simp)
      obtain ⟨bk, o, s⟩ := a
      simp only at hs
      subst hs
      have hcells : ∀ (j : Nat) x, (y :: ys)[j]? = some x → w.cell? ⟨bk, o + j, none⟩ = some (.string x) := fun j x hj => by
        refine S.cell _ _ _ (h6 j _ ?_)
        rw [List.getElem?_map, hj]; rfl
      have hb : bk < w.heap.size := by
        have := World.block_lt_of_cell? w _ (hcells 0 y rfl)
        simpa using this
      refine (Any.strings_Join_48 laysJoin laysJoinX bk o c (y :: ys) x1 w hcells hb hh.1 k2 hh.2).mono ?_
      rintro e w' ⟨rfl, hB⟩
      exact ⟨_, rfl, rfl, S.below hB⟩
  · cases H
end Go.Proofs.YtkkflfmonidepaaDoor
namespace Go.Proofs.YtkkflfmonidepaaDoor
open Sp
set_option maxRecDepth 100000
set_option maxHeartbeats 4000000
def regex_members.l0 : Nat → (List T_regex_span) → (List ByteArray) → Int → Option (List ByteArray)
  | 0, _, _, _ => none
  | k + 1, x0, l3, n6 => (if n6 < (x0.length : Int) then ((lat x0 n6).bind fun y18 => ((octet_Text.f k (i64 y18.from_)).bind fun y26 => (if y18.to_ = y18.from_ then ((app 16 l3 [y26]).bind fun l33 => (regex_members.l0 k x0 l33 (i64 (n6 + 1)))) else ((octet_Text.f k (i64 y18.to_)).bind fun y39 => ((scat (⟨#[45]⟩) y39).bind fun s41 => ((scat y26 s41).bind fun s43 => ((app 16 l3 [s43]).bind fun l49 => (regex_members.l0 k x0 l49 (i64 (n6 + 1)))))))))) else (some l3))
def regex_members.f (k : Nat) (x0 : (List T_regex_span)) : Option ByteArray := ((regex_members.l0 k x0 [] 0).bind fun l13 => ((strings_Join.f k l13 (⟨#[32]⟩)).bind fun y55 => (some y55)))
abbrev regex_members.C (k : Nat) : Prop := ∀ {x0 : (List T_regex_span)} {vx0 : Value} {F : List It} {I : IMem} {w : World} {r : ByteArray}, Glob I → Own I w (F) → SlR R_regex_span I vx0 x0 → regex_members.f k x0 = some r →
    Calls Tryd.prog 46 #[vx0] w fun e w' => ∃ v, e = .returned v ∧ v = .string r ∧ Own I w' (F)
theorem regex_members.ok (k : Nat) : regex_members.C k := by
  intro x0 vx0 F I w r hG S hx0 H
  have hI := IMem.le.refl I
  rw [regex_members.f] at H
  refine Calls.ofFW (args := [vx0]) Tryd.func46 rfl rfl ?_
  refine FW.seq ?_
  refine FW.region ?_
  refine U rfl rfl (V (x_asgV (v := .string (⟨#[]⟩)) rfl) ?_)
  refine FW.seq ?_
  refine FW.region ?_
  refine U rfl rfl (V (x_asgV (v := (.slice none 0 0)) rfl) ?_)
  refine FW.seq ?_
  refine FW.seq ?_
  refine FW.region ?_
  refine U rfl rfl (V (x_movV (v := vx0) rfl) ?_)
  refine U rfl rfl (V (x_lenD (r := R_regex_span) tsl46 hx0) ?_)
  refine U rfl rfl (V (x_movV (v := .int .i64 0) rfl) ?_)
  refine FW.block ?_
  have S := S.nil_tv 9 1
  obtain ⟨o9, hl11, HO10⟩ := obx H
  refine FW.cutX 0 (fun σ w => ∃ (l13 : (List ByteArray)) (v14 : Value) (J12 : IMem), l13 = o9 ∧ Has σ [(3, v14)] ∧ I.le J12 ∧ Own J12 w (.tv v14 9 1 :: F) ∧ SlR tString J12 v14 l13) ?_ ?_
  ·
    refine FW.loop k (FL.ind (fun q σ w => ∃ (l3 : (List ByteArray)) (n6 : Int) (v4 : Value) (J2 : IMem), regex_members.l0 q x0 l3 n6 = some o9 ∧ q ≤ k ∧ Has σ [(3, v4), (7, vx0), (8, .int .i64 (x0.length : Int)), (9, .int .i64 n6)] ∧ I.le J2 ∧ Own J2 w (.tv v4 9 1 :: F) ∧ SlR tString J2 v4 l3) ?_ ?_ k k _ _ (Nat.le_refl _) ⟨[], 0, (.slice none 0 0), I, hl11, Nat.le_refl _, ⟨rfl, rfl, rfl, rfl, trivial⟩, (IMem.le.refl _), S, (SlR.nil _ _)⟩)
    · rintro σ w ⟨l3, n6, v4, J2, H, _⟩; cases H
    · rintro q7 σ w ⟨l3, n6, v4, J2, H, hq16, hσ, hL8, S, h5⟩
      have hx0 := hx0.mono hL8
      have hI := hI.trans hL8
      have hG := hG.mono hL8
      rw [hσ.eq]
      rw [regex_members.l0] at H
      refine FW.seq ?_
      refine FW.region ?_
      refine U rfl rfl (V (x_bin rfl rfl rfl) ?_)
      refine FW.seq ?_
      by_cases cc17 : n6 < (x0.length : Int)
      · rw [if_pos cc17] at H
        refine FW.condT rfl (deT cc17) ?_
        refine FW.skip ?_
        refine FW.seq ?_
        refine FW.block ?_
        refine FW.seq ?_
        refine FW.region ?_
        obtain ⟨y18, h19, H⟩ := obx H
        refine U rfl rfl (o_ia (r := R_regex_span) tsl46 rfl rfl hx0 rfl h19 fun b20 o21 cs22 hr23 hc24 => ?_)
        obtain rfl := hr23
        refine U rfl rfl (V (x_ldA tag80 rfl (S.loadI hc24) rfl) ?_)
        refine U rfl rfl (o_all tz80 S fun b25 w S => ?_)
        refine U rfl rfl (o_stA tag80 S 0 rfl rfl rfl rfl (c1 rfl (c1 rfl c0)) rfl fun w S => ?_)
        refine FW.seq ?_
        refine FW.region ?_
        refine U rfl rfl (V (x_fa tf80_0 rfl) ?_)
        refine U rfl rfl (V (x_ld tsc38 rfl (S.load 0 rfl 0 rfl)) ?_)
        refine U rfl rfl (V (x_conv tint3 tint_38 rfl) ?_)
        obtain ⟨y26, hy27, H⟩ := obx H
        refine U rfl rfl (cl fb42 (@octet_Text.ok q7 (i64 y18.from_) _ _ _ _ hG S hy27) rfl ?_)
        rintro _ w ⟨rfl, S⟩
        refine U rfl rfl (V (x_asgV (v := .string y26) rfl) ?_)
        refine FW.seq ?_
        refine FW.seq ?_
        refine FW.anew [(3, v4), (5, .pointer (some ⟨b25, 0, none⟩)), (6, .string y26), (7, vx0), (8, .int .i64 (x0.length : Int)), (9, .int .i64 n6)] ⟨rfl, rfl, rfl, rfl, rfl, rfl, trivial⟩ fun σ => ?_
        refine FW.region ?_
        refine U rfl rfl (V (x_fa tf80_1 rfl) ?_)
        refine U rfl rfl (V (x_ld tsc38 rfl (S.load 0 rfl 1 rfl)) ?_)
        refine U rfl rfl (V (x_fa tf80_0 rfl) ?_)
        refine U rfl rfl (V (x_ld tsc38 rfl (S.load 0 rfl 0 rfl)) ?_)
        refine U rfl rfl (V (x_bin rfl rfl rfl) ?_)
        by_cases cc28 : y18.to_ = y18.from_
        · rw [if_pos cc28] at H
          refine FW.condF rfl (neF cc28) ?_
          refine FW.skip ?_
          refine FW.region ?_
          refine U rfl rfl (V (x_movV (v := v4) rfl) ?_)
          refine U rfl rfl (V (x_movV (v := .string y26) rfl) ?_)
          refine U rfl rfl (o_bsl tsl84 tz9 rfl rfl rfl rfl (.one rfl PC.nil) rfl S fun b29 w S => ?_)
          obtain ⟨J30, hJ32, S, h31⟩ := S.freeze (r := tString) (l := [y26]) 0 rfl ⟨[.string y26], _, rfl, rfl, rfl⟩ rfl rfl
          have h5 := h5.mono hJ32
          have hx0 := hx0.mono hJ32
          have hI := hI.trans hJ32
          have hL8 := hL8.trans hJ32
          have hG := hG.mono hJ32
          obtain ⟨l33, h35, H⟩ := obx H
          refine U rfl rfl (o_appD (r := tString) tsl84 rfl tz9 rfl rfl S 2 rfl rfl h5 h31 h35 fun v34 w J37 hJ38 S h36 => ?_)
          have h5 := h5.mono hJ38
          have hx0 := hx0.mono hJ38
          have h31 := h31.mono hJ38
          have hI := hI.trans hJ38
          have hL8 := hL8.trans hJ38
          have hG := hG.mono hJ38
          refine U rfl rfl (V (x_asgV (v := v34) rfl) ?_)
          refine FW.anew [(3, v34), (7, vx0), (8, .int .i64 (x0.length : Int)), (9, .int .i64 n6)] ⟨rfl, rfl, rfl, rfl, trivial⟩ fun σ => ?_
          refine FW.region ?_
          refine U rfl rfl (V (x_bin rfl rfl rfl) ?_)
          refine U rfl rfl (V (x_movV (v := .int .i64 (i64 (n6 + 1))) rfl) ?_)
          exact ⟨q7, Nat.le_refl _, l33, (i64 (n6 + 1)), v34, J37, H, (Nat.le_of_succ_le hq16), ⟨rfl, rfl, rfl, rfl, trivial⟩, hL8, (S.sel 3 [2] rfl), h36⟩
        · rw [if_neg cc28] at H
          refine FW.condT rfl (neT cc28) ?_
          refine FW.region ?_
          refine U rfl rfl (V (x_movV (v := .string y26) rfl) ?_)
          refine U rfl rfl (V (x_fa tf80_1 rfl) ?_)
          refine U rfl rfl (V (x_ld tsc38 rfl (S.load 0 rfl 1 rfl)) ?_)
          refine U rfl rfl (V (x_conv tint3 tint_38 rfl) ?_)
          obtain ⟨y39, hy40, H⟩ := obx H
          refine U rfl rfl (cl fb42 (@octet_Text.ok q7 (i64 y18.to_) _ _ _ _ hG S hy40) rfl ?_)
          rintro _ w ⟨rfl, S⟩
          obtain ⟨s41, h42, H⟩ := obx H
          refine U rfl rfl (V (x_catD rfl rfl h42) ?_)
          obtain ⟨s43, h44, H⟩ := obx H
          refine U rfl rfl (V (x_catD rfl rfl h44) ?_)
          refine U rfl rfl (V (x_asgV (v := .string s43) rfl) ?_)
          refine FW.anew [(3, v4), (6, .string s43), (7, vx0), (8, .int .i64 (x0.length : Int)), (9, .int .i64 n6)] ⟨rfl, rfl, rfl, rfl, rfl, trivial⟩ fun σ => ?_
          refine FW.region ?_
          refine U rfl rfl (V (x_movV (v := v4) rfl) ?_)
          refine U rfl rfl (V (x_movV (v := .string s43) rfl) ?_)
          refine U rfl rfl (o_bsl tsl84 tz9 rfl rfl rfl rfl (.one rfl PC.nil) rfl S fun b45 w S => ?_)
          obtain ⟨J46, hJ48, S, h47⟩ := S.freeze (r := tString) (l := [s43]) 0 rfl ⟨[.string s43], _, rfl, rfl, rfl⟩ rfl rfl
          have h5 := h5.mono hJ48
          have hx0 := hx0.mono hJ48
          have hI := hI.trans hJ48
          have hL8 := hL8.trans hJ48
          have hG := hG.mono hJ48
          obtain ⟨l49, h51, H⟩ := obx H
          refine U rfl rfl (o_appD (r := tString) tsl84 rfl tz9 rfl rfl S 2 rfl rfl h5 h47 h51 fun v50 w J53 hJ54 S h52 => ?_)
          have h5 := h5.mono hJ54
          have hx0 := hx0.mono hJ54
          have h47 := h47.mono hJ54
          have hI := hI.trans hJ54
          have hL8 := hL8.trans hJ54
          have hG := hG.mono hJ54
          refine U rfl rfl (V (x_asgV (v := v50) rfl) ?_)
          refine FW.region ?_
          refine U rfl rfl (V (x_bin rfl rfl rfl) ?_)
          refine U rfl rfl (V (x_movV (v := .int .i64 (i64 (n6 + 1))) rfl) ?_)
          exact ⟨q7, Nat.le_refl _, l49, (i64 (n6 + 1)), v50, J53, H, (Nat.le_of_succ_le hq16), ⟨rfl, rfl, rfl, rfl, trivial⟩, hL8, (S.sel 3 [2] rfl), h52⟩
      · rw [if_neg cc17] at H
        refine FW.condF rfl (deF cc17) ?_
        refine FW.exit ?_
        exact ⟨l3, v4, J2, (Option.some.inj H), ⟨rfl, trivial⟩, hL8, S, h5⟩
  · rintro σ w ⟨l13, v14, J12, ho, hσ, hL8, S, h15⟩
    subst ho
    have H := HO10
    have hI := hI.trans hL8
    have hG := hG.mono hL8
    rw [hσ.eq]
    refine FW.seq ?_
    refine FW.region ?_
    refine U rfl rfl (V (x_movV (v := v14) rfl) ?_)
    obtain ⟨y55, hy56, H⟩ := obx H
    refine U rfl rfl (cl fb40 (@strings_Join.ok k l13 (⟨#[32]⟩) _ _ _ _ _ hG S h15 hy56) rfl ?_)
    rintro _ w ⟨rfl, S⟩
    refine U rfl rfl (V (x_asgV (v := .string y55) rfl) ?_)
    refine FW.ret ?_
    obtain rfl := Option.some.inj H
    exact ⟨_, ⟨_, rfl, rfl⟩, ⟨rfl, ((S.sel 1 [] rfl).weaken hI)⟩⟩
mutual
def regex_texts.l0 : Nat → (List T_regex_piece) → (List ByteArray) → Int → Option (List ByteArray)
  | 0, _, _, _ => none
  | k + 1, x0, l3, n6 => (if n6 < (x0.length : Int) then ((lat x0 n6).bind fun y18 => ((regex_text.f k y18).bind fun y26 => ((app 16 l3 [y26]).bind fun l32 => (regex_texts.l0 k x0 l32 (i64 (n6 + 1)))))) else (some l3))
def regex_texts.f : Nat → (List T_regex_piece) → ByteArray → Option ByteArray
  | 0, _, _ => none
  | k + 1, x0, x1 => ((regex_texts.l0 k x0 [] 0).bind fun l13 => ((strings_Join.f k l13 x1).bind fun y38 => (some y38)))
def regex_text.f : Nat → T_regex_piece → Option ByteArray
  | 0, _ => none
  | k + 1, x0 => (if x0.kind = 0 then ((regex_texts.f k x0.parts (⟨#[32]⟩)).bind fun y3 => (some y3)) else (if x0.kind = 1 then ((regex_texts.f k x0.parts (⟨#[124]⟩)).bind fun y6 => ((scat (⟨#[40]⟩) y6).bind fun s8 => ((scat s8 (⟨#[41]⟩)).bind fun s10 => (some s10)))) else (if x0.kind = 2 then ((regex_members.f k x0.spans).bind fun y13 => (some y13)) else (if x0.kind = 3 then (some (⟨#[46]⟩)) else (if x0.kind = 5 then (some (⟨#[94]⟩)) else (if x0.kind = 6 then (some (⟨#[36]⟩)) else (if x0.kind = 7 then ((lat x0.parts 0).bind fun y19 => ((regex_text.f k y19).bind fun y26 => ((scat y26 (⟨#[42]⟩)).bind fun s28 => (some s28)))) else (if x0.kind = 8 then ((lat x0.parts 0).bind fun y31 => ((regex_text.f k y31).bind fun y38 => ((scat y38 (⟨#[43]⟩)).bind fun s40 => (some s40)))) else (if x0.kind = 9 then ((lat x0.parts 0).bind fun y43 => ((regex_text.f k y43).bind fun y50 => ((scat y50 (⟨#[63]⟩)).bind fun s52 => (some s52)))) else (if x0.not = true then ((regex_members.f k x0.spans).bind fun y55 => ((scat (⟨#[91, 94]⟩) y55).bind fun s57 => ((scat s57 (⟨#[93]⟩)).bind fun s59 => (some s59)))) else ((regex_members.f k x0.spans).bind fun y61 => ((scat (⟨#[91]⟩) y61).bind fun s63 => ((scat s63 (⟨#[93]⟩)).bind fun s65 => (some s65))))))))))))))
end
abbrev regex_texts.C (k : Nat) : Prop := ∀ {x0 : (List T_regex_piece)} {x1 : ByteArray} {vx0 : Value} {F : List It} {I : IMem} {w : World} {r : ByteArray}, Glob I → Own I w (F) → SlR R_regex_piece I vx0 x0 → regex_texts.f k x0 x1 = some r →
    Calls Tryd.prog 25 #[vx0, .string x1] w fun e w' => ∃ v, e = .returned v ∧ v = .string r ∧ Own I w' (F)
abbrev regex_text.C (k : Nat) : Prop := ∀ {x0 : T_regex_piece} {x0v1 : Value} {x0v2 : Value} {F : List It} {I : IMem} {w : World} {r : ByteArray}, Glob I → Own I w (F) → SlR R_regex_piece I x0v1 x0.parts → SlR R_regex_span I x0v2 x0.spans → regex_text.f k x0 = some r →
    Calls Tryd.prog 39 #[.agg #[.int .i64 x0.kind, x0v1, x0v2, .bool x0.not]] w fun e w' => ∃ v, e = .returned v ∧ v = .string r ∧ Own I w' (F)
theorem regex_texts.step (k : Nat) (ih_regex_text : ∀ m, m ≤ k → regex_text.C m) : regex_texts.C (k + 1) := by
  intro x0 x1 vx0 F I w r hG S hx0 H
  have hI := IMem.le.refl I
  rw [regex_texts.f] at H
  refine Calls.ofFW (args := [vx0, .string x1]) Tryd.func25 rfl rfl ?_
  refine FW.seq ?_
  refine FW.region ?_
  refine U rfl rfl (V (x_asgV (v := .string (⟨#[]⟩)) rfl) ?_)
  refine FW.seq ?_
  refine FW.region ?_
  refine U rfl rfl (V (x_asgV (v := (.slice none 0 0)) rfl) ?_)
  refine FW.seq ?_
  refine FW.seq ?_
  refine FW.region ?_
  refine U rfl rfl (V (x_movV (v := vx0) rfl) ?_)
  refine U rfl rfl (V (x_lenD (r := R_regex_piece) tsl45 hx0) ?_)
  refine U rfl rfl (V (x_movV (v := .int .i64 0) rfl) ?_)
  refine FW.block ?_
  have S := S.nil_tv 9 1
  obtain ⟨o9, hl11, HO10⟩ := obx H
  refine FW.cutX 0 (fun σ w => ∃ (l13 : (List ByteArray)) (v14 : Value) (J12 : IMem), l13 = o9 ∧ Has σ [(1, .string x1), (5, v14)] ∧ I.le J12 ∧ Own J12 w (.tv v14 9 1 :: F) ∧ SlR tString J12 v14 l13) ?_ ?_
  ·
    refine FW.loop k (FL.ind (fun q σ w => ∃ (l3 : (List ByteArray)) (n6 : Int) (v4 : Value) (J2 : IMem), regex_texts.l0 q x0 l3 n6 = some o9 ∧ q ≤ k ∧ Has σ [(1, .string x1), (5, v4), (8, vx0), (9, .int .i64 (x0.length : Int)), (10, .int .i64 n6)] ∧ I.le J2 ∧ Own J2 w (.tv v4 9 1 :: F) ∧ SlR tString J2 v4 l3) ?_ ?_ k k _ _ (Nat.le_refl _) ⟨[], 0, (.slice none 0 0), I, hl11, Nat.le_refl _, ⟨rfl, rfl, rfl, rfl, rfl, trivial⟩, (IMem.le.refl _), S, (SlR.nil _ _)⟩)
    · rintro σ w ⟨l3, n6, v4, J2, H, _⟩; cases H
    · rintro q7 σ w ⟨l3, n6, v4, J2, H, hq16, hσ, hL8, S, h5⟩
      have hx0 := hx0.mono hL8
      have hI := hI.trans hL8
      have hG := hG.mono hL8
      rw [hσ.eq]
      rw [regex_texts.l0] at H
      refine FW.seq ?_
      refine FW.region ?_
      refine U rfl rfl (V (x_bin rfl rfl rfl) ?_)
      refine FW.seq ?_
      by_cases cc17 : n6 < (x0.length : Int)
      · rw [if_pos cc17] at H
        refine FW.condT rfl (deT cc17) ?_
        refine FW.skip ?_
        refine FW.seq ?_
        refine FW.block ?_
        refine FW.seq ?_
        refine FW.region ?_
        obtain ⟨y18, h19, H⟩ := obx H
        refine U rfl rfl (o_ia (r := R_regex_piece) tsl45 rfl rfl hx0 rfl h19 fun b20 o21 cs22 hr23 hc24 => ?_)
        obtain ⟨y18v1, y18v2, rfl, y18h1, y18h2⟩ := R_regex_piece.un hr23
        refine U rfl rfl (V (x_ldA tag48 rfl (S.loadI hc24) rfl) ?_)
        refine U rfl rfl (o_all tz48 S fun b25 w S => ?_)
        refine U rfl rfl (o_stA tag48 S 0 rfl rfl rfl rfl (c1 rfl (c1 y18h1.one (c1 y18h2.one (c1 rfl c0)))) rfl fun w S => ?_)
        refine FW.region ?_
        refine U rfl rfl (V (x_movV (v := v4) rfl) ?_)
        refine U rfl rfl (V (x_ldA tag48 rfl (S.loadW 0 rfl) rfl) ?_)
        obtain ⟨y26, hy27, H⟩ := obx H
        refine U rfl rfl (cl fb39 (@ih_regex_text q7 (by omega) y18 _ _ _ _ _ _ hG S y18h1 y18h2 hy27) rfl ?_)
        rintro _ w ⟨rfl, S⟩
        refine U rfl rfl (o_bsl tsl84 tz9 rfl rfl rfl rfl (.one rfl PC.nil) rfl S fun b28 w S => ?_)
        obtain ⟨J29, hJ31, S, h30⟩ := S.freeze (r := tString) (l := [y26]) 0 rfl ⟨[.string y26], _, rfl, rfl, rfl⟩ rfl rfl
        have h5 := h5.mono hJ31
        have hx0 := hx0.mono hJ31
        have y18h1 := y18h1.mono hJ31
        have y18h2 := y18h2.mono hJ31
        have hI := hI.trans hJ31
        have hL8 := hL8.trans hJ31
        have hG := hG.mono hJ31
        obtain ⟨l32, h34, H⟩ := obx H
        refine U rfl rfl (o_appD (r := tString) tsl84 rfl tz9 rfl rfl S 2 rfl rfl h5 h30 h34 fun v33 w J36 hJ37 S h35 => ?_)
        have h5 := h5.mono hJ37
        have hx0 := hx0.mono hJ37
        have y18h1 := y18h1.mono hJ37
        have y18h2 := y18h2.mono hJ37
        have h30 := h30.mono hJ37
        have hI := hI.trans hJ37
        have hL8 := hL8.trans hJ37
        have hG := hG.mono hJ37
        refine U rfl rfl (V (x_asgV (v := v33) rfl) ?_)
        refine FW.anew [(1, .string x1), (5, v33), (8, vx0), (9, .int .i64 (x0.length : Int)), (10, .int .i64 n6)] ⟨rfl, rfl, rfl, rfl, rfl, trivial⟩ fun σ => ?_
        refine FW.region ?_
        refine U rfl rfl (V (x_bin rfl rfl rfl) ?_)
        refine U rfl rfl (V (x_movV (v := .int .i64 (i64 (n6 + 1))) rfl) ?_)
        exact ⟨q7, Nat.le_refl _, l32, (i64 (n6 + 1)), v33, J36, H, (Nat.le_of_succ_le hq16), ⟨rfl, rfl, rfl, rfl, rfl, trivial⟩, hL8, (S.sel 3 [2] rfl), h35⟩
      · rw [if_neg cc17] at H
        refine FW.condF rfl (deF cc17) ?_
        refine FW.exit ?_
        exact ⟨l3, v4, J2, (Option.some.inj H), ⟨rfl, rfl, trivial⟩, hL8, S, h5⟩
  · rintro σ w ⟨l13, v14, J12, ho, hσ, hL8, S, h15⟩
    subst ho
    have H := HO10
    have hI := hI.trans hL8
    have hG := hG.mono hL8
    rw [hσ.eq]
    refine FW.seq ?_
    refine FW.region ?_
    refine U rfl rfl (V (x_movV (v := v14) rfl) ?_)
    refine U rfl rfl (V (x_movV (v := .string x1) rfl) ?_)
    obtain ⟨y38, hy39, H⟩ := obx H
    refine U rfl rfl (cl fb40 (@strings_Join.ok k l13 x1 _ _ _ _ _ hG S h15 hy39) rfl ?_)
    rintro _ w ⟨rfl, S⟩
    refine U rfl rfl (V (x_asgV (v := .string y38) rfl) ?_)
    refine FW.ret ?_
    obtain rfl := Option.some.inj H
    exact ⟨_, ⟨_, rfl, rfl⟩, ⟨rfl, ((S.sel 1 [] rfl).weaken hI)⟩⟩
theorem regex_texts.zero : regex_texts.C 0 := by
  intro _ _ _ _ _ _ _ _ _ _ H; cases H
theorem regex_text.step (k : Nat) (ih_regex_texts : ∀ m, m ≤ k → regex_texts.C m) (ih_regex_text : ∀ m, m ≤ k → regex_text.C m) : regex_text.C (k + 1) := by
  intro x0 x0v1 x0v2 F I w r hG S x0h1 x0h2 H
  have hI := IMem.le.refl I
  rw [regex_text.f] at H
  refine Calls.ofFW (args := [.agg #[.int .i64 x0.kind, x0v1, x0v2, .bool x0.not]]) Tryd.func39 rfl rfl ?_
  refine FW.seq ?_
  refine FW.region ?_
  refine U rfl rfl (o_boxA rfl S fun b1 w S => ?_)
  refine U rfl rfl (V (x_asgV (v := .string (⟨#[]⟩)) rfl) ?_)
  refine FW.seq ?_
  refine FW.seq ?_
  refine FW.region ?_
  refine U rfl rfl (V (x_fa tf48_0 rfl) ?_)
  refine U rfl rfl (V (x_ld tsc3 rfl (S.load 0 rfl 0 rfl)) ?_)
  refine FW.block ?_
  refine FW.seq ?_
  refine FW.region ?_
  refine U rfl rfl (V (x_bin rfl rfl rfl) ?_)
  refine U rfl rfl (V (x_asgV (v := .bool (x0.kind == 0)) rfl) ?_)
  by_cases cc2 : x0.kind = 0
  · rw [if_pos cc2] at H
    refine FW.condT rfl (eqT cc2) ?_
    refine FW.seq ?_
    refine FW.region ?_
    refine U rfl rfl (V (x_fa tf48_1 rfl) ?_)
    refine U rfl rfl (V (x_ld tsc45 rfl (S.load 0 rfl 1 rfl)) ?_)
    obtain ⟨y3, hy4, H⟩ := obx H
    refine U rfl rfl (cl fb25 (@ih_regex_texts k (by omega) x0.parts (⟨#[32]⟩) _ _ _ _ _ hG S x0h1 hy4) rfl ?_)
    rintro _ w ⟨rfl, S⟩
    refine U rfl rfl (V (x_asgV (v := .string y3) rfl) ?_)
    refine FW.ret ?_
    obtain rfl := Option.some.inj H
    exact ⟨_, ⟨_, rfl, rfl⟩, ⟨rfl, ((S.sel 1 [] rfl).weaken hI)⟩⟩
  · rw [if_neg cc2] at H
    refine FW.condF rfl (eqF cc2) ?_
    refine FW.seq ?_
    refine FW.region ?_
    refine U rfl rfl (V (x_bin rfl rfl rfl) ?_)
    refine U rfl rfl (V (x_asgV (v := .bool (x0.kind == 1)) rfl) ?_)
    by_cases cc5 : x0.kind = 1
    · rw [if_pos cc5] at H
      refine FW.condT rfl (eqT cc5) ?_
      refine FW.seq ?_
      refine FW.anew [(1, .pointer (some ⟨b1, 0, none⟩))] ⟨rfl, trivial⟩ fun σ => ?_
      refine FW.region ?_
      refine U rfl rfl (V (x_fa tf48_1 rfl) ?_)
      refine U rfl rfl (V (x_ld tsc45 rfl (S.load 0 rfl 1 rfl)) ?_)
      obtain ⟨y6, hy7, H⟩ := obx H
      refine U rfl rfl (cl fb25 (@ih_regex_texts k (by omega) x0.parts (⟨#[124]⟩) _ _ _ _ _ hG S x0h1 hy7) rfl ?_)
      rintro _ w ⟨rfl, S⟩
      obtain ⟨s8, h9, H⟩ := obx H
      refine U rfl rfl (V (x_catD rfl rfl h9) ?_)
      obtain ⟨s10, h11, H⟩ := obx H
      refine U rfl rfl (V (x_catD rfl rfl h11) ?_)
      refine U rfl rfl (V (x_asgV (v := .string s10) rfl) ?_)
      refine FW.ret ?_
      obtain rfl := Option.some.inj H
      exact ⟨_, ⟨_, rfl, rfl⟩, ⟨rfl, ((S.sel 1 [] rfl).weaken hI)⟩⟩
    · rw [if_neg cc5] at H
      refine FW.condF rfl (eqF cc5) ?_
      refine FW.seq ?_
      refine FW.anew [(1, .pointer (some ⟨b1, 0, none⟩)), (4, .int .i64 x0.kind)] ⟨rfl, rfl, trivial⟩ fun σ => ?_
      refine FW.region ?_
      refine U rfl rfl (V (x_bin rfl rfl rfl) ?_)
      refine U rfl rfl (V (x_asgV (v := .bool (x0.kind == 2)) rfl) ?_)
      by_cases cc12 : x0.kind = 2
      · rw [if_pos cc12] at H
        refine FW.condT rfl (eqT cc12) ?_
        refine FW.seq ?_
        refine FW.region ?_
        refine U rfl rfl (V (x_fa tf48_2 rfl) ?_)
        refine U rfl rfl (V (x_ld tsc46 rfl (S.load 0 rfl 2 rfl)) ?_)
        obtain ⟨y13, hy14, H⟩ := obx H
        refine U rfl rfl (cl fb46 (@regex_members.ok k x0.spans _ _ _ _ _ hG S x0h2 hy14) rfl ?_)
        rintro _ w ⟨rfl, S⟩
        refine U rfl rfl (V (x_asgV (v := .string y13) rfl) ?_)
        refine FW.ret ?_
        obtain rfl := Option.some.inj H
        exact ⟨_, ⟨_, rfl, rfl⟩, ⟨rfl, ((S.sel 1 [] rfl).weaken hI)⟩⟩
      · rw [if_neg cc12] at H
        refine FW.condF rfl (eqF cc12) ?_
        refine FW.seq ?_
        refine FW.region ?_
        refine U rfl rfl (V (x_bin rfl rfl rfl) ?_)
        refine U rfl rfl (V (x_asgV (v := .bool (x0.kind == 3)) rfl) ?_)
        by_cases cc15 : x0.kind = 3
        · rw [if_pos cc15] at H
          refine FW.condT rfl (eqT cc15) ?_
          refine FW.seq ?_
          refine FW.region ?_
          refine U rfl rfl (V (x_asgV (v := .string (⟨#[46]⟩)) rfl) ?_)
          refine FW.ret ?_
          obtain rfl := Option.some.inj H
          exact ⟨_, ⟨_, rfl, rfl⟩, ⟨rfl, ((S.sel 1 [] rfl).weaken hI)⟩⟩
        · rw [if_neg cc15] at H
          refine FW.condF rfl (eqF cc15) ?_
          refine FW.seq ?_
          refine FW.region ?_
          refine U rfl rfl (V (x_bin rfl rfl rfl) ?_)
          refine U rfl rfl (V (x_asgV (v := .bool (x0.kind == 5)) rfl) ?_)
          by_cases cc16 : x0.kind = 5
          · rw [if_pos cc16] at H
            refine FW.condT rfl (eqT cc16) ?_
            refine FW.seq ?_
            refine FW.region ?_
            refine U rfl rfl (V (x_asgV (v := .string (⟨#[94]⟩)) rfl) ?_)
            refine FW.ret ?_
            obtain rfl := Option.some.inj H
            exact ⟨_, ⟨_, rfl, rfl⟩, ⟨rfl, ((S.sel 1 [] rfl).weaken hI)⟩⟩
          · rw [if_neg cc16] at H
            refine FW.condF rfl (eqF cc16) ?_
            refine FW.seq ?_
            refine FW.region ?_
            refine U rfl rfl (V (x_bin rfl rfl rfl) ?_)
            refine U rfl rfl (V (x_asgV (v := .bool (x0.kind == 6)) rfl) ?_)
            by_cases cc17 : x0.kind = 6
            · rw [if_pos cc17] at H
              refine FW.condT rfl (eqT cc17) ?_
              refine FW.seq ?_
              refine FW.anew [] trivial fun σ => ?_
              refine FW.region ?_
              refine U rfl rfl (V (x_asgV (v := .string (⟨#[36]⟩)) rfl) ?_)
              refine FW.ret ?_
              obtain rfl := Option.some.inj H
              exact ⟨_, ⟨_, rfl, rfl⟩, ⟨rfl, ((S.sel 1 [] rfl).weaken hI)⟩⟩
            · rw [if_neg cc17] at H
              refine FW.condF rfl (eqF cc17) ?_
              refine FW.seq ?_
              refine FW.anew [(1, .pointer (some ⟨b1, 0, none⟩)), (4, .int .i64 x0.kind)] ⟨rfl, rfl, trivial⟩ fun σ => ?_
              refine FW.region ?_
              refine U rfl rfl (V (x_bin rfl rfl rfl) ?_)
              refine U rfl rfl (V (x_asgV (v := .bool (x0.kind == 7)) rfl) ?_)
              by_cases cc18 : x0.kind = 7
              · rw [if_pos cc18] at H
                refine FW.condT rfl (eqT cc18) ?_
                refine FW.seq ?_
                refine FW.region ?_
                refine U rfl rfl (V (x_fa tf48_1 rfl) ?_)
                refine U rfl rfl (V (x_ld tsc45 rfl (S.load 0 rfl 1 rfl)) ?_)
                obtain ⟨y19, h20, H⟩ := obx H
                refine U rfl rfl (o_ia (r := R_regex_piece) tsl45 rfl rfl x0h1 rfl h20 fun b21 o22 cs23 hr24 hc25 => ?_)
                obtain ⟨y19v1, y19v2, rfl, y19h1, y19h2⟩ := R_regex_piece.un hr24
                refine U rfl rfl (V (x_ldA tag48 rfl (S.loadI hc25) rfl) ?_)
                obtain ⟨y26, hy27, H⟩ := obx H
                refine U rfl rfl (cl fb39 (@ih_regex_text k (by omega) y19 _ _ _ _ _ _ hG S y19h1 y19h2 hy27) rfl ?_)
                rintro _ w ⟨rfl, S⟩
                obtain ⟨s28, h29, H⟩ := obx H
                refine U rfl rfl (V (x_catD rfl rfl h29) ?_)
                refine U rfl rfl (V (x_asgV (v := .string s28) rfl) ?_)
                refine FW.ret ?_
                obtain rfl := Option.some.inj H
                exact ⟨_, ⟨_, rfl, rfl⟩, ⟨rfl, ((S.sel 1 [] rfl).weaken hI)⟩⟩
              · rw [if_neg cc18] at H
                refine FW.condF rfl (eqF cc18) ?_
                refine FW.seq ?_
                refine FW.region ?_
                refine U rfl rfl (V (x_bin rfl rfl rfl) ?_)
                refine U rfl rfl (V (x_asgV (v := .bool (x0.kind == 8)) rfl) ?_)
                by_cases cc30 : x0.kind = 8
                · rw [if_pos cc30] at H
                  refine FW.condT rfl (eqT cc30) ?_
                  refine FW.seq ?_
                  refine FW.region ?_
                  refine U rfl rfl (V (x_fa tf48_1 rfl) ?_)
                  refine U rfl rfl (V (x_ld tsc45 rfl (S.load 0 rfl 1 rfl)) ?_)
                  obtain ⟨y31, h32, H⟩ := obx H
                  refine U rfl rfl (o_ia (r := R_regex_piece) tsl45 rfl rfl x0h1 rfl h32 fun b33 o34 cs35 hr36 hc37 => ?_)
                  obtain ⟨y31v1, y31v2, rfl, y31h1, y31h2⟩ := R_regex_piece.un hr36
                  refine U rfl rfl (V (x_ldA tag48 rfl (S.loadI hc37) rfl) ?_)
                  obtain ⟨y38, hy39, H⟩ := obx H
                  refine U rfl rfl (cl fb39 (@ih_regex_text k (by omega) y31 _ _ _ _ _ _ hG S y31h1 y31h2 hy39) rfl ?_)
                  rintro _ w ⟨rfl, S⟩
                  obtain ⟨s40, h41, H⟩ := obx H
                  refine U rfl rfl (V (x_catD rfl rfl h41) ?_)
                  refine U rfl rfl (V (x_asgV (v := .string s40) rfl) ?_)
                  refine FW.ret ?_
                  obtain rfl := Option.some.inj H
                  exact ⟨_, ⟨_, rfl, rfl⟩, ⟨rfl, ((S.sel 1 [] rfl).weaken hI)⟩⟩
                · rw [if_neg cc30] at H
                  refine FW.condF rfl (eqF cc30) ?_
                  refine FW.seq ?_
                  refine FW.region ?_
                  refine U rfl rfl (V (x_bin rfl rfl rfl) ?_)
                  refine U rfl rfl (V (x_asgV (v := .bool (x0.kind == 9)) rfl) ?_)
                  by_cases cc42 : x0.kind = 9
                  · rw [if_pos cc42] at H
                    refine FW.condT rfl (eqT cc42) ?_
                    refine FW.seq ?_
                    refine FW.region ?_
                    refine U rfl rfl (V (x_fa tf48_1 rfl) ?_)
                    refine U rfl rfl (V (x_ld tsc45 rfl (S.load 0 rfl 1 rfl)) ?_)
                    obtain ⟨y43, h44, H⟩ := obx H
                    refine U rfl rfl (o_ia (r := R_regex_piece) tsl45 rfl rfl x0h1 rfl h44 fun b45 o46 cs47 hr48 hc49 => ?_)
                    obtain ⟨y43v1, y43v2, rfl, y43h1, y43h2⟩ := R_regex_piece.un hr48
                    refine U rfl rfl (V (x_ldA tag48 rfl (S.loadI hc49) rfl) ?_)
                    obtain ⟨y50, hy51, H⟩ := obx H
                    refine U rfl rfl (cl fb39 (@ih_regex_text k (by omega) y43 _ _ _ _ _ _ hG S y43h1 y43h2 hy51) rfl ?_)
                    rintro _ w ⟨rfl, S⟩
                    obtain ⟨s52, h53, H⟩ := obx H
                    refine U rfl rfl (V (x_catD rfl rfl h53) ?_)
                    refine U rfl rfl (V (x_asgV (v := .string s52) rfl) ?_)
                    refine FW.ret ?_
                    obtain rfl := Option.some.inj H
                    exact ⟨_, ⟨_, rfl, rfl⟩, ⟨rfl, ((S.sel 1 [] rfl).weaken hI)⟩⟩
                  · rw [if_neg cc42] at H
                    refine FW.condF rfl (eqF cc42) ?_
                    refine FW.skip ?_
                    refine FW.seq ?_
                    refine FW.seq ?_
                    refine FW.region ?_
                    refine U rfl rfl (V (x_fa tf48_3 rfl) ?_)
                    refine U rfl rfl (V (x_ld tsc4 rfl (S.load 0 rfl 3 rfl)) ?_)
                    by_cases cc54 : x0.not = true
                    · rw [if_pos cc54] at H
                      refine FW.condT rfl cc54 ?_
                      refine FW.seq ?_
                      refine FW.anew [(1, .pointer (some ⟨b1, 0, none⟩))] ⟨rfl, trivial⟩ fun σ => ?_
                      refine FW.region ?_
                      refine U rfl rfl (V (x_fa tf48_2 rfl) ?_)
                      refine U rfl rfl (V (x_ld tsc46 rfl (S.load 0 rfl 2 rfl)) ?_)
                      obtain ⟨y55, hy56, H⟩ := obx H
                      refine U rfl rfl (cl fb46 (@regex_members.ok k x0.spans _ _ _ _ _ hG S x0h2 hy56) rfl ?_)
                      rintro _ w ⟨rfl, S⟩
                      obtain ⟨s57, h58, H⟩ := obx H
                      refine U rfl rfl (V (x_catD rfl rfl h58) ?_)
                      obtain ⟨s59, h60, H⟩ := obx H
                      refine U rfl rfl (V (x_catD rfl rfl h60) ?_)
                      refine U rfl rfl (V (x_asgV (v := .string s59) rfl) ?_)
                      refine FW.ret ?_
                      obtain rfl := Option.some.inj H
                      exact ⟨_, ⟨_, rfl, rfl⟩, ⟨rfl, ((S.sel 1 [] rfl).weaken hI)⟩⟩
                    · rw [if_neg cc54] at H
                      refine FW.condF rfl (vaF cc54) ?_
                      refine FW.skip ?_
                      refine FW.seq ?_
                      refine FW.anew [(1, .pointer (some ⟨b1, 0, none⟩))] ⟨rfl, trivial⟩ fun σ => ?_
                      refine FW.region ?_
                      refine U rfl rfl (V (x_fa tf48_2 rfl) ?_)
                      refine U rfl rfl (V (x_ld tsc46 rfl (S.load 0 rfl 2 rfl)) ?_)
                      obtain ⟨y61, hy62, H⟩ := obx H
                      refine U rfl rfl (cl fb46 (@regex_members.ok k x0.spans _ _ _ _ _ hG S x0h2 hy62) rfl ?_)
                      rintro _ w ⟨rfl, S⟩
                      obtain ⟨s63, h64, H⟩ := obx H
                      refine U rfl rfl (V (x_catD rfl rfl h64) ?_)
                      obtain ⟨s65, h66, H⟩ := obx H
                      refine U rfl rfl (V (x_catD rfl rfl h66) ?_)
                      refine U rfl rfl (V (x_asgV (v := .string s65) rfl) ?_)
                      refine FW.ret ?_
                      obtain rfl := Option.some.inj H
                      exact ⟨_, ⟨_, rfl, rfl⟩, ⟨rfl, ((S.sel 1 [] rfl).weaken hI)⟩⟩
theorem regex_text.zero : regex_text.C 0 := by
  intro _ _ _ _ _ _ _ _ _ _ _ H; cases H
theorem regex_texts.grp : ∀ k m, m ≤ k → regex_texts.C m ∧ regex_text.C m
  | 0, m, h => by
    obtain rfl : m = 0 := by omega
    exact ⟨regex_texts.zero, regex_text.zero⟩
  | k + 1, 0, _ => ⟨regex_texts.zero, regex_text.zero⟩
  | k + 1, m + 1, h => ⟨regex_texts.step m (fun i hi => (regex_texts.grp k i (by omega)).2), regex_text.step m (fun i hi => (regex_texts.grp k i (by omega)).1) (fun i hi => (regex_texts.grp k i (by omega)).2)⟩
theorem regex_texts.ok (k : Nat) : regex_texts.C k := (regex_texts.grp k k (Nat.le_refl k)).1
def regex_Expr_Text.f (k : Nat) (x0 : (Option T_regex_Expr)) : Option ByteArray := (if x0.isNone = true then (some (⟨#[]⟩)) else ((x0).bind fun y2 => ((regex_texts.f k y2.top.parts (⟨#[124]⟩)).bind fun y10 => (some y10))))
abbrev regex_Expr_Text.C (k : Nat) : Prop := ∀ {x0 : (Option T_regex_Expr)} {vx0 : Value} {F : List It} {I : IMem} {w : World} {r : ByteArray}, Glob I → Own I w (F) → PtR R_regex_Expr I vx0 x0 → regex_Expr_Text.f k x0 = some r →
    Calls Tryd.prog 15 #[vx0] w fun e w' => ∃ v, e = .returned v ∧ v = .string r ∧ Own I w' (F)
theorem regex_Expr_Text.ok (k : Nat) : regex_Expr_Text.C k := by
  intro x0 vx0 F I w r hG S hx0 H
  have hI := IMem.le.refl I
  rw [regex_Expr_Text.f] at H
  refine Calls.ofFW (args := [vx0]) Tryd.func15 rfl rfl ?_
  refine FW.seq ?_
  refine FW.region ?_
  refine U rfl rfl (V (x_asgV (v := .string (⟨#[]⟩)) rfl) ?_)
  refine FW.seq ?_
  refine FW.seq ?_
  refine FW.region ?_
  refine U rfl rfl (V (x_movV (v := vx0) rfl) ?_)
  refine U rfl rfl (V (x_onil (r := R_regex_Expr) tptr24 hx0 rfl) ?_)
  by_cases cc1 : x0.isNone = true
  · rw [if_pos cc1] at H
    refine FW.condT rfl cc1 ?_
    refine FW.seq ?_
    refine FW.region ?_
    refine U rfl rfl (V (x_asgV (v := .string (⟨#[]⟩)) rfl) ?_)
    refine FW.ret ?_
    obtain rfl := Option.some.inj H
    exact ⟨_, ⟨_, rfl, rfl⟩, ⟨rfl, (S.weaken hI)⟩⟩
  · rw [if_neg cc1] at H
    refine FW.condF rfl (vaF cc1) ?_
    refine FW.skip ?_
    refine FW.seq ?_
    refine FW.region ?_
    refine U rfl rfl (V (x_movV (v := vx0) rfl) ?_)
    obtain ⟨y2, hy3, H⟩ := obx H
    obtain ⟨b4, o5, cs6, hv7, hr8, hc9⟩ := hx0.some hy3
    obtain ⟨y2v1, y2v2, y2v4, rfl, y2h1, y2h2, y2h4⟩ := hr8
    refine U rfl rfl (V (x_nk hv7) ?_)
    refine U rfl rfl (V (x_fa tf55_0 rfl) ?_)
    refine U rfl rfl (V (x_fa tf48_1 rfl) ?_)
    refine U rfl rfl (V (x_ld tsc45 rfl (S.cell _ _ _ (hc9 1 _ rfl))) ?_)
    obtain ⟨y10, hy11, H⟩ := obx H
    refine U rfl rfl (cl fb25 (@regex_texts.ok k y2.top.parts (⟨#[124]⟩) _ _ _ _ _ hG S y2h1 hy11) rfl ?_)
    rintro _ w ⟨rfl, S⟩
    refine U rfl rfl (V (x_asgV (v := .string y10) rfl) ?_)
    refine FW.ret ?_
    obtain rfl := Option.some.inj H
    exact ⟨_, ⟨_, rfl, rfl⟩, ⟨rfl, (S.weaken hI)⟩⟩
def speculumlaw11_awake.f (k : Nat) : Option Bool := ((regex_Parse.f k (⟨#[49, 32, 40, 50, 124, 51, 41, 42, 36]⟩)).bind fun y1 => (if y1.2 = 0 then ((regex_Expr_Match.f k y1.1 [9, 1, 2, 3]).bind fun y10 => (if y10 = true then ((regex_Expr_Match.f k y1.1 [1, 4]).bind fun y17 => (if y17 = true then (some false) else ((regex_Expr_Text.f k y1.1).bind fun y20 => (some (decide (y20 = (⟨#[49, 32, 40, 50, 124, 51, 41, 42, 32, 36]⟩))))))) else (some false))) else (some false)))
abbrev speculumlaw11_awake.C (k : Nat) : Prop := ∀ {F : List It} {I : IMem} {w : World} {r : Bool}, Glob I → Own I w (F) → speculumlaw11_awake.f k = some r →
    Calls Tryd.prog 7 #[] w fun e w' => ∃ v, e = .returned v ∧ v = .bool r ∧ Own I w' (F)
theorem speculumlaw11_awake.ok (k : Nat) : speculumlaw11_awake.C k := by
  intro F I w r hG S H
  have hI := IMem.le.refl I
  rw [speculumlaw11_awake.f] at H
  refine Calls.ofFW (args := []) Tryd.func7 rfl rfl ?_
  refine FW.seq ?_
  refine FW.region ?_
  refine U rfl rfl (V (x_asgV (v := .bool false) rfl) ?_)
  refine FW.seq ?_
  refine FW.region ?_
  obtain ⟨y1, hy2, H⟩ := obx H
  refine U rfl rfl (cl fb8 (@regex_Parse.ok k (⟨#[49, 32, 40, 50, 124, 51, 41, 42, 36]⟩) _ _ _ _ hG S hy2) rfl ?_)
  rintro _ w ⟨vy1_0, J3, hJ4, rfl, hy1_0, S⟩
  have hI := hI.trans hJ4
  have hG := hG.mono hJ4
  refine U rfl rfl (V (x_movV (v := .tuple #[vy1_0, .int .i64 y1.2]) rfl) ?_)
  refine U rfl rfl (V (x_ext rfl rfl) ?_)
  refine U rfl rfl (V (x_ext rfl rfl) ?_)
  refine U rfl rfl (V (x_asgV (v := vy1_0) rfl) ?_)
  refine U rfl rfl (V (x_asgV (v := .int .i64 y1.2) rfl) ?_)
  refine FW.seq ?_
  refine FW.anew [(1, vy1_0), (2, .int .i64 y1.2)] ⟨rfl, rfl, trivial⟩ fun σ => ?_
  refine FW.region ?_
  refine U rfl rfl (V (x_movV (v := .int .i64 y1.2) rfl) ?_)
  refine U rfl rfl (V (x_bin rfl rfl rfl) ?_)
  refine U rfl rfl (V (x_movV (v := .bool (y1.2 == 0)) rfl) ?_)
  by_cases cc5 : y1.2 = 0
  · rw [if_pos cc5] at H
    refine OK.gt rfl rfl rfl (eqT cc5) (V (x_movV (v := vy1_0) rfl) ?_)
    refine OK.gt rfl rfl rfl (eqT cc5) (o_bsl tsl22 tz38 rfl rfl rfl rfl (.one rfl (.one rfl (.one rfl (.one rfl PC.nil)))) rfl S fun b6 w S => ?_)
    obtain ⟨J7, hJ9, S, h8⟩ := S.freeze (r := (tInt' .u32)) (l := [9, 1, 2, 3]) 0 rfl ⟨[.int .u32 9], _, rfl, rfl, ⟨[.int .u32 1], _, rfl, rfl, ⟨[.int .u32 2], _, rfl, rfl, ⟨[.int .u32 3], _, rfl, rfl, rfl⟩⟩⟩⟩ rfl rfl
    have hy1_0 := hy1_0.mono hJ9
    have hI := hI.trans hJ9
    have hG := hG.mono hJ9
    obtain ⟨y10, hy11, H⟩ := obx H
    refine OK.gt rfl rfl rfl (eqT cc5) (cl fb10 (@regex_Expr_Match.ok k y1.1 [9, 1, 2, 3] _ _ _ _ _ _ hG S hy1_0 h8 hy11) rfl ?_)
    rintro _ w ⟨rfl, S⟩
    refine U rfl rfl (V (x_pickTV (v := .bool y10) rfl (eqT cc5) rfl) ?_)
    refine U rfl rfl (V (x_movV (v := .bool y10) rfl) ?_)
    by_cases cc12 : y10 = true
    · rw [if_pos cc12] at H
      refine OK.gt rfl rfl rfl cc12 (V (x_movV (v := vy1_0) rfl) ?_)
      refine OK.gt rfl rfl rfl cc12 (o_bsl tsl22 tz38 rfl rfl rfl rfl (.one rfl (.one rfl PC.nil)) rfl S fun b13 w S => ?_)
      obtain ⟨J14, hJ16, S, h15⟩ := S.freeze (r := (tInt' .u32)) (l := [1, 4]) 0 rfl ⟨[.int .u32 1], _, rfl, rfl, ⟨[.int .u32 4], _, rfl, rfl, rfl⟩⟩ rfl rfl
      have hy1_0 := hy1_0.mono hJ16
      have h8 := h8.mono hJ16
      have hI := hI.trans hJ16
      have hG := hG.mono hJ16
      obtain ⟨y17, hy18, H⟩ := obx H
      refine OK.gt rfl rfl rfl cc12 (cl fb10 (@regex_Expr_Match.ok k y1.1 [1, 4] _ _ _ _ _ _ hG S hy1_0 h15 hy18) rfl ?_)
      rintro _ w ⟨rfl, S⟩
      refine OK.gt rfl rfl rfl cc12 (V (x_not' rfl) ?_)
      refine U rfl rfl (V (x_pickTV (v := .bool (!y17)) rfl cc12 rfl) ?_)
      refine U rfl rfl (V (x_movV (v := .bool (!y17)) rfl) ?_)
      by_cases cc19 : y17 = true
      · rw [if_pos cc19] at H
        refine OK.gf rfl rfl rfl (noF cc19) ?_
        refine OK.gf rfl rfl rfl (noF cc19) ?_
        refine OK.gf rfl rfl rfl (noF cc19) ?_
        refine U rfl rfl (V (x_pickFV (v := .bool false) rfl (noF cc19) rfl) ?_)
        refine U rfl rfl (V (x_asgV (v := .bool false) rfl) ?_)
        refine FW.ret ?_
        obtain rfl := Option.some.inj H
        exact ⟨_, ⟨_, rfl, rfl⟩, ⟨rfl, ((S.sel 2 [] rfl).weaken hI)⟩⟩
      · rw [if_neg cc19] at H
        refine OK.gt rfl rfl rfl (noT (vaF cc19)) (V (x_movV (v := vy1_0) rfl) ?_)
        obtain ⟨y20, hy21, H⟩ := obx H
        refine OK.gt rfl rfl rfl (noT (vaF cc19)) (cl fb15 (@regex_Expr_Text.ok k y1.1 _ _ _ _ _ hG S hy1_0 hy21) rfl ?_)
        rintro _ w ⟨rfl, S⟩
        refine OK.gt rfl rfl rfl (noT (vaF cc19)) (V (x_seq rfl rfl) ?_)
        refine U rfl rfl (V (x_pickTV (v := .bool (decide (y20 = (⟨#[49, 32, 40, 50, 124, 51, 41, 42, 32, 36]⟩)))) rfl (noT (vaF cc19)) rfl) ?_)
        refine U rfl rfl (V (x_asgV (v := .bool (decide (y20 = (⟨#[49, 32, 40, 50, 124, 51, 41, 42, 32, 36]⟩)))) rfl) ?_)
        refine FW.ret ?_
        obtain rfl := Option.some.inj H
        exact ⟨_, ⟨_, rfl, rfl⟩, ⟨rfl, ((S.sel 2 [] rfl).weaken hI)⟩⟩
    · rw [if_neg cc12] at H
      refine OK.gf rfl rfl rfl (vaF cc12) ?_
      refine OK.gf rfl rfl rfl (vaF cc12) ?_
      refine OK.gf rfl rfl rfl (vaF cc12) ?_
      refine OK.gf rfl rfl rfl (vaF cc12) ?_
      refine U rfl rfl (V (x_pickFV (v := .bool false) rfl (vaF cc12) rfl) ?_)
      refine U rfl rfl (V (x_movV (v := .bool false) rfl) ?_)
      refine OK.gf rfl rfl rfl rfl ?_
      refine OK.gf rfl rfl rfl rfl ?_
      refine OK.gf rfl rfl rfl rfl ?_
      refine U rfl rfl (V (x_pickFV (v := .bool false) rfl rfl rfl) ?_)
      refine U rfl rfl (V (x_asgV (v := .bool false) rfl) ?_)
      refine FW.ret ?_
      obtain rfl := Option.some.inj H
      exact ⟨_, ⟨_, rfl, rfl⟩, ⟨rfl, ((S.sel 1 [] rfl).weaken hI)⟩⟩
  · rw [if_neg cc5] at H
    refine OK.gf rfl rfl rfl (eqF cc5) ?_
    refine OK.gf rfl rfl rfl (eqF cc5) ?_
    refine OK.gf rfl rfl rfl (eqF cc5) ?_
    refine U rfl rfl (V (x_pickFV (v := .bool false) rfl (eqF cc5) rfl) ?_)
    refine U rfl rfl (V (x_movV (v := .bool false) rfl) ?_)
    refine OK.gf rfl rfl rfl rfl ?_
    refine OK.gf rfl rfl rfl rfl ?_
    refine OK.gf rfl rfl rfl rfl ?_
    refine OK.gf rfl rfl rfl rfl ?_
    refine U rfl rfl (V (x_pickFV (v := .bool false) rfl rfl rfl) ?_)
    refine U rfl rfl (V (x_movV (v := .bool false) rfl) ?_)
    refine OK.gf rfl rfl rfl rfl ?_
    refine OK.gf rfl rfl rfl rfl ?_
    refine OK.gf rfl rfl rfl rfl ?_
    refine U rfl rfl (V (x_pickFV (v := .bool false) rfl rfl rfl) ?_)
    refine U rfl rfl (V (x_asgV (v := .bool false) rfl) ?_)
    refine FW.ret ?_
    obtain rfl := Option.some.inj H
    exact ⟨_, ⟨_, rfl, rfl⟩, ⟨rfl, (S.weaken hI)⟩⟩
def speculumref11_P_sign.l0 : Nat → T_speculumref11_P → Int → Option Int
  | 0, _, _ => none
  | k + 1, x0, n2 => (if n2 < (x0.S.size : Int) then ((sat x0.S n2).bind fun y13 => (if y13 = 32 then (speculumref11_P_sign.l0 k x0 (i64 (n2 + 1))) else ((sat x0.S n2).bind fun y16 => (if y16 = 95 then (speculumref11_P_sign.l0 k x0 (i64 (n2 + 1))) else (some n2))))) else (some n2))
def speculumref11_P_sign.f (k : Nat) (x0 : T_speculumref11_P) : Option (Int × T_speculumref11_P) := ((speculumref11_P_sign.l0 k x0 x0.At).bind fun n9 => (if n9 = (x0.S.size : Int) then (some (0, (T_speculumref11_P.mk x0.S n9 x0.N x0.Bad))) else ((sat x0.S n9).bind fun y22 => (some (y22, (T_speculumref11_P.mk x0.S n9 x0.N x0.Bad))))))
abbrev speculumref11_P_sign.C (k : Nat) : Prop := ∀ {x0 : T_speculumref11_P} {x0v2 : Value} {bx0 : Nat} {F : List It} {I : IMem} {w : World} {r : Int × T_speculumref11_P}, Glob I → Own I w (.bk bx0 62 [.string x0.S, .int .i64 x0.At, x0v2, .bool x0.Bad] :: .tv x0v2 77 6 :: F) → SlR R_speculumref11_Node I x0v2 x0.N → speculumref11_P_sign.f k x0 = some r →
    Calls Tryd.prog 21 #[.pointer (some ⟨bx0, 0, none⟩)] w fun e w' => ∃ v, e = .returned v ∧ ∃ (y_1v2 : Value) (J : IMem), I.le J ∧ v = .int .u8 r.1 ∧ SlR R_speculumref11_Node J y_1v2 r.2.N ∧ Own J w' (.bk bx0 62 [.string r.2.S, .int .i64 r.2.At, y_1v2, .bool r.2.Bad] :: .tv y_1v2 77 6 :: F)
theorem speculumref11_P_sign.ok (k : Nat) : speculumref11_P_sign.C k := by
  intro x0 x0v2 bx0 F I w r hG S x0h2 H
  have hI := IMem.le.refl I
  rw [speculumref11_P_sign.f] at H
  refine Calls.ofFW (args := [.pointer (some ⟨bx0, 0, none⟩)]) Tryd.func21 rfl rfl ?_
  refine FW.seq ?_
  refine FW.region ?_
  refine U rfl rfl (V (x_asgV (v := .int .u8 0) rfl) ?_)
  refine FW.seq ?_
  refine FW.block ?_
  obtain ⟨o5, hl7, HO6⟩ := obx H
  refine FW.cutX 0 (fun σ w => ∃ (n9 : Int) (J8 : IMem), n9 = o5 ∧ Has σ [(0, .pointer (some ⟨bx0, 0, none⟩))] ∧ I.le J8 ∧ Own J8 w (.bk bx0 62 [.string x0.S, .int .i64 n9, x0v2, .bool x0.Bad] :: .tv x0v2 77 6 :: F)) ?_ ?_
  ·
    refine FW.loop k (FL.ind (fun q σ w => ∃ (n2 : Int) (J1 : IMem), speculumref11_P_sign.l0 q x0 n2 = some o5 ∧ q ≤ k ∧ Has σ [(0, .pointer (some ⟨bx0, 0, none⟩))] ∧ I.le J1 ∧ Own J1 w (.bk bx0 62 [.string x0.S, .int .i64 n2, x0v2, .bool x0.Bad] :: .tv x0v2 77 6 :: F)) ?_ ?_ k k _ _ (Nat.le_refl _) ⟨x0.At, I, hl7, Nat.le_refl _, ⟨rfl, trivial⟩, (IMem.le.refl _), S⟩)
    · rintro σ w ⟨n2, J1, H, _⟩; cases H
    · rintro q3 σ w ⟨n2, J1, H, hq10, hσ, hL4, S⟩
      have x0h2 := x0h2.mono hL4
      have hI := hI.trans hL4
      have hG := hG.mono hL4
      rw [hσ.eq]
      rw [speculumref11_P_sign.l0] at H
      refine FW.seq ?_
      refine FW.seq ?_
      have S := S.drew
      refine FW.regionD mixed ?_
      have hO := Hold.nil (w := { w with drawn := w.drawn + 1 })
      refine AQ.pure 0 rfl (by kernel_rfl) (by kernel_rfl) (by kernel_rfl) rfl hO (fun w => x_movV (v := .pointer (some ⟨bx0, 0, none⟩)) rfl) ?_
      refine AQ.pure 1 rfl (by kernel_rfl) (by kernel_rfl) (by kernel_rfl) rfl hO (fun w => x_nk rfl) ?_
      refine AQ.pure 2 rfl (by kernel_rfl) (by kernel_rfl) (by kernel_rfl) rfl hO (fun w => x_fa tf62_1 rfl) ?_
      have hR11 := IMem.le.refl J1
      refine AQ.take (S := Stab J1 [.bk bx0 62 [.string x0.S, .int .i64 n2, x0v2, .bool x0.Bad]]) 3 rfl (by kernel_rfl) (by kernel_rfl) (by kernel_rfl) rfl hO (Stab.of S 0 rfl hR11) (fun w hS => x_ld tsc3 rfl (hS.load 0 rfl 1 rfl)) fun hO => ?_
      refine AQ.pure 4 rfl (by kernel_rfl) (by kernel_rfl) (by kernel_rfl) rfl hO (fun w => x_movV (v := .pointer (some ⟨bx0, 0, none⟩)) rfl) ?_
      refine AQ.pure 5 rfl (by kernel_rfl) (by kernel_rfl) (by kernel_rfl) rfl hO (fun w => x_nk rfl) ?_
      refine AQ.pure 6 rfl (by kernel_rfl) (by kernel_rfl) (by kernel_rfl) rfl hO (fun w => x_fa tf62_0 rfl) ?_
      refine AQ.take (S := Stab J1 [.bk bx0 62 [.string x0.S, .int .i64 n2, x0v2, .bool x0.Bad]]) 7 rfl (by kernel_rfl) (by kernel_rfl) (by kernel_rfl) rfl hO (Stab.of S 0 rfl hR11) (fun w hS => x_ld tsc9 rfl (hS.load 0 rfl 0 rfl)) fun hO => ?_
      refine AQ.pure 8 rfl (by kernel_rfl) (by kernel_rfl) (by kernel_rfl) rfl hO (fun w => x_lens tstr9 rfl) ?_
      refine AQ.pure 9 rfl (by kernel_rfl) (by kernel_rfl) (by kernel_rfl) rfl hO (fun w => x_bin rfl rfl rfl) ?_
      refine AQ.pure 10 rfl (by kernel_rfl) (by kernel_rfl) (by kernel_rfl) rfl hO (fun w => x_movV (v := .bool (decide (n2 < (x0.S.size : Int)))) rfl) ?_
      by_cases cc12 : n2 < (x0.S.size : Int)
      · rw [if_pos cc12] at H
        refine AQ.pure 11 rfl (by kernel_rfl) (by kernel_rfl) (by kernel_rfl) (gT rfl rfl (deT cc12)) hO (fun w => x_movV (v := .pointer (some ⟨bx0, 0, none⟩)) rfl) ?_
        refine AQ.pure 12 rfl (by kernel_rfl) (by kernel_rfl) (by kernel_rfl) (gT rfl rfl (deT cc12)) hO (fun w => x_nk rfl) ?_
        refine AQ.pure 13 rfl (by kernel_rfl) (by kernel_rfl) (by kernel_rfl) (gT rfl rfl (deT cc12)) hO (fun w => x_fa tf62_0 rfl) ?_
        refine AQ.take (S := Stab J1 [.bk bx0 62 [.string x0.S, .int .i64 n2, x0v2, .bool x0.Bad]]) 14 rfl (by kernel_rfl) (by kernel_rfl) (by kernel_rfl) (gT rfl rfl (deT cc12)) hO (Stab.of S 0 rfl hR11) (fun w hS => x_ld tsc9 rfl (hS.load 0 rfl 0 rfl)) fun hO => ?_
        refine AQ.pure 15 rfl (by kernel_rfl) (by kernel_rfl) (by kernel_rfl) (gT rfl rfl (deT cc12)) hO (fun w => x_movV (v := .pointer (some ⟨bx0, 0, none⟩)) rfl) ?_
        refine AQ.pure 16 rfl (by kernel_rfl) (by kernel_rfl) (by kernel_rfl) (gT rfl rfl (deT cc12)) hO (fun w => x_nk rfl) ?_
        refine AQ.pure 17 rfl (by kernel_rfl) (by kernel_rfl) (by kernel_rfl) (gT rfl rfl (deT cc12)) hO (fun w => x_fa tf62_1 rfl) ?_
        refine AQ.take (S := Stab J1 [.bk bx0 62 [.string x0.S, .int .i64 n2, x0v2, .bool x0.Bad]]) 18 rfl (by kernel_rfl) (by kernel_rfl) (by kernel_rfl) (gT rfl rfl (deT cc12)) hO (Stab.of S 0 rfl hR11) (fun w hS => x_ld tsc3 rfl (hS.load 0 rfl 1 rfl)) fun hO => ?_
        obtain ⟨y13, h14, H⟩ := obx H
        refine AQ.pure 19 rfl (by kernel_rfl) (by kernel_rfl) (by kernel_rfl) (gT rfl rfl (deT cc12)) hO (fun w => x_sat tstr9 rfl rfl h14) ?_
        refine AQ.pure 20 rfl (by kernel_rfl) (by kernel_rfl) (by kernel_rfl) (gT rfl rfl (deT cc12)) hO (fun w => x_bin rfl rfl rfl) ?_
        refine AQ.pure 21 rfl (by kernel_rfl) (by kernel_rfl) (by kernel_rfl) (gT rfl rfl (deT cc12)) hO (fun w => x_movV (v := .bool (y13 == 32)) rfl) ?_
        by_cases cc15 : y13 = 32
        · rw [if_pos cc15] at H
          refine AQ.skip 22 rfl (by kernel_rfl) (by kernel_rfl) (by kernel_rfl) rfl rfl (eqT cc15) hO ?_
          refine AQ.skip 23 rfl (by kernel_rfl) (by kernel_rfl) (by kernel_rfl) rfl rfl (eqT cc15) hO ?_
          refine AQ.skip 24 rfl (by kernel_rfl) (by kernel_rfl) (by kernel_rfl) rfl rfl (eqT cc15) hO ?_
          refine AQ.skip 25 rfl (by kernel_rfl) (by kernel_rfl) (by kernel_rfl) rfl rfl (eqT cc15) hO ?_
          refine AQ.skip 26 rfl (by kernel_rfl) (by kernel_rfl) (by kernel_rfl) rfl rfl (eqT cc15) hO ?_
          refine AQ.skip 27 rfl (by kernel_rfl) (by kernel_rfl) (by kernel_rfl) rfl rfl (eqT cc15) hO ?_
          refine AQ.skip 28 rfl (by kernel_rfl) (by kernel_rfl) (by kernel_rfl) rfl rfl (eqT cc15) hO ?_
          refine AQ.skip 29 rfl (by kernel_rfl) (by kernel_rfl) (by kernel_rfl) rfl rfl (eqT cc15) hO ?_
          refine AQ.skip 30 rfl (by kernel_rfl) (by kernel_rfl) (by kernel_rfl) rfl rfl (eqT cc15) hO ?_
          refine AQ.skip 31 rfl (by kernel_rfl) (by kernel_rfl) (by kernel_rfl) rfl rfl (eqT cc15) hO ?_
          refine AQ.pure 32 rfl (by kernel_rfl) (by kernel_rfl) (by kernel_rfl) (gT rfl rfl (deT cc12)) hO (fun w => x_pickTV (v := .bool true) rfl (eqT cc15) rfl) ?_
          refine AQ.pure 33 rfl (by kernel_rfl) (by kernel_rfl) (by kernel_rfl) rfl hO (fun w => x_pickTV (v := .bool true) rfl (deT cc12) rfl) ?_
          refine AQ.done (by kernel_rfl) ?_
          refine FW.condT rfl rfl ?_
          refine FW.skip ?_
          refine FW.block ?_
          refine FW.anew [(0, .pointer (some ⟨bx0, 0, none⟩))] ⟨rfl, trivial⟩ fun σ => ?_
          refine FW.region ?_
          refine U rfl rfl (V (x_movV (v := .pointer (some ⟨bx0, 0, none⟩)) rfl) ?_)
          refine U rfl rfl (V (x_movV (v := .pointer (some ⟨bx0, 0, none⟩)) rfl) ?_)
          refine U rfl rfl (V (x_nk rfl) ?_)
          refine U rfl rfl (V (x_fa tf62_1 rfl) ?_)
          refine U rfl rfl (V (x_ld tsc3 rfl (S.load 0 rfl 1 rfl)) ?_)
          refine U rfl rfl (V (x_bin rfl rfl rfl) ?_)
          refine U rfl rfl (V (x_nk rfl) ?_)
          refine U rfl rfl (V (x_fa tf62_1 rfl) ?_)
          refine U rfl rfl (o_st tone3 S 0 rfl rfl rfl rfl fun w S => ?_)
          exact ⟨q3, Nat.le_refl _, (i64 (n2 + 1)), J1, H, (Nat.le_of_succ_le hq10), ⟨rfl, trivial⟩, hL4, S⟩
        · rw [if_neg cc15] at H
          refine AQ.pure 22 rfl (by kernel_rfl) (by kernel_rfl) (by kernel_rfl) (gT rfl rfl (eqF cc15)) hO (fun w => x_movV (v := .pointer (some ⟨bx0, 0, none⟩)) rfl) ?_
          refine AQ.pure 23 rfl (by kernel_rfl) (by kernel_rfl) (by kernel_rfl) (gT rfl rfl (eqF cc15)) hO (fun w => x_nk rfl) ?_
          refine AQ.pure 24 rfl (by kernel_rfl) (by kernel_rfl) (by kernel_rfl) (gT rfl rfl (eqF cc15)) hO (fun w => x_fa tf62_0 rfl) ?_
          refine AQ.take (S := Stab J1 [.bk bx0 62 [.string x0.S, .int .i64 n2, x0v2, .bool x0.Bad]]) 25 rfl (by kernel_rfl) (by kernel_rfl) (by kernel_rfl) (gT rfl rfl (eqF cc15)) hO (Stab.of S 0 rfl hR11) (fun w hS => x_ld tsc9 rfl (hS.load 0 rfl 0 rfl)) fun hO => ?_
          refine AQ.pure 26 rfl (by kernel_rfl) (by kernel_rfl) (by kernel_rfl) (gT rfl rfl (eqF cc15)) hO (fun w => x_movV (v := .pointer (some ⟨bx0, 0, none⟩)) rfl) ?_
          refine AQ.pure 27 rfl (by kernel_rfl) (by kernel_rfl) (by kernel_rfl) (gT rfl rfl (eqF cc15)) hO (fun w => x_nk rfl) ?_
          refine AQ.pure 28 rfl (by kernel_rfl) (by kernel_rfl) (by kernel_rfl) (gT rfl rfl (eqF cc15)) hO (fun w => x_fa tf62_1 rfl) ?_
          refine AQ.take (S := Stab J1 [.bk bx0 62 [.string x0.S, .int .i64 n2, x0v2, .bool x0.Bad]]) 29 rfl (by kernel_rfl) (by kernel_rfl) (by kernel_rfl) (gT rfl rfl (eqF cc15)) hO (Stab.of S 0 rfl hR11) (fun w hS => x_ld tsc3 rfl (hS.load 0 rfl 1 rfl)) fun hO => ?_
          obtain ⟨y16, h17, H⟩ := obx H
          refine AQ.pure 30 rfl (by kernel_rfl) (by kernel_rfl) (by kernel_rfl) (gT rfl rfl (eqF cc15)) hO (fun w => x_sat tstr9 rfl rfl h17) ?_
          refine AQ.pure 31 rfl (by kernel_rfl) (by kernel_rfl) (by kernel_rfl) (gT rfl rfl (eqF cc15)) hO (fun w => x_bin rfl rfl rfl) ?_
          refine AQ.pure 32 rfl (by kernel_rfl) (by kernel_rfl) (by kernel_rfl) (gT rfl rfl (deT cc12)) hO (fun w => x_pickFV (v := .bool (y16 == 95)) rfl (eqF cc15) rfl) ?_
          refine AQ.pure 33 rfl (by kernel_rfl) (by kernel_rfl) (by kernel_rfl) rfl hO (fun w => x_pickTV (v := .bool (y16 == 95)) rfl (deT cc12) rfl) ?_
          refine AQ.done (by kernel_rfl) ?_
          by_cases cc18 : y16 = 95
          · rw [if_pos cc18] at H
            refine FW.condT rfl (eqT cc18) ?_
            refine FW.skip ?_
            refine FW.block ?_
            refine FW.anew [(0, .pointer (some ⟨bx0, 0, none⟩))] ⟨rfl, trivial⟩ fun σ => ?_
            refine FW.region ?_
            refine U rfl rfl (V (x_movV (v := .pointer (some ⟨bx0, 0, none⟩)) rfl) ?_)
            refine U rfl rfl (V (x_movV (v := .pointer (some ⟨bx0, 0, none⟩)) rfl) ?_)
            refine U rfl rfl (V (x_nk rfl) ?_)
            refine U rfl rfl (V (x_fa tf62_1 rfl) ?_)
            refine U rfl rfl (V (x_ld tsc3 rfl (S.load 0 rfl 1 rfl)) ?_)
            refine U rfl rfl (V (x_bin rfl rfl rfl) ?_)
            refine U rfl rfl (V (x_nk rfl) ?_)
            refine U rfl rfl (V (x_fa tf62_1 rfl) ?_)
            refine U rfl rfl (o_st tone3 S 0 rfl rfl rfl rfl fun w S => ?_)
            exact ⟨q3, Nat.le_refl _, (i64 (n2 + 1)), J1, H, (Nat.le_of_succ_le hq10), ⟨rfl, trivial⟩, hL4, S⟩
          · rw [if_neg cc18] at H
            refine FW.condF rfl (eqF cc18) ?_
            refine FW.exit ?_
            exact ⟨n2, J1, (Option.some.inj H), ⟨rfl, trivial⟩, hL4, S⟩
      · rw [if_neg cc12] at H
        refine AQ.skip 11 rfl (by kernel_rfl) (by kernel_rfl) (by kernel_rfl) rfl rfl (deF cc12) hO ?_
        refine AQ.skip 12 rfl (by kernel_rfl) (by kernel_rfl) (by kernel_rfl) rfl rfl (deF cc12) hO ?_
        refine AQ.skip 13 rfl (by kernel_rfl) (by kernel_rfl) (by kernel_rfl) rfl rfl (deF cc12) hO ?_
        refine AQ.skip 14 rfl (by kernel_rfl) (by kernel_rfl) (by kernel_rfl) rfl rfl (deF cc12) hO ?_
        refine AQ.skip 15 rfl (by kernel_rfl) (by kernel_rfl) (by kernel_rfl) rfl rfl (deF cc12) hO ?_
        refine AQ.skip 16 rfl (by kernel_rfl) (by kernel_rfl) (by kernel_rfl) rfl rfl (deF cc12) hO ?_
        refine AQ.skip 17 rfl (by kernel_rfl) (by kernel_rfl) (by kernel_rfl) rfl rfl (deF cc12) hO ?_
        refine AQ.skip 18 rfl (by kernel_rfl) (by kernel_rfl) (by kernel_rfl) rfl rfl (deF cc12) hO ?_
        refine AQ.skip 19 rfl (by kernel_rfl) (by kernel_rfl) (by kernel_rfl) rfl rfl (deF cc12) hO ?_
        refine AQ.skip 20 rfl (by kernel_rfl) (by kernel_rfl) (by kernel_rfl) rfl rfl (deF cc12) hO ?_
        refine AQ.skip 21 rfl (by kernel_rfl) (by kernel_rfl) (by kernel_rfl) rfl rfl (deF cc12) hO ?_
        refine AQ.skipU 22 rfl (by kernel_rfl) (by kernel_rfl) (by kernel_rfl) rfl rfl hO ?_
        refine AQ.skipU 23 rfl (by kernel_rfl) (by kernel_rfl) (by kernel_rfl) rfl rfl hO ?_
        refine AQ.skipU 24 rfl (by kernel_rfl) (by kernel_rfl) (by kernel_rfl) rfl rfl hO ?_
        refine AQ.skipU 25 rfl (by kernel_rfl) (by kernel_rfl) (by kernel_rfl) rfl rfl hO ?_
        refine AQ.skipU 26 rfl (by kernel_rfl) (by kernel_rfl) (by kernel_rfl) rfl rfl hO ?_
        refine AQ.skipU 27 rfl (by kernel_rfl) (by kernel_rfl) (by kernel_rfl) rfl rfl hO ?_
        refine AQ.skipU 28 rfl (by kernel_rfl) (by kernel_rfl) (by kernel_rfl) rfl rfl hO ?_
        refine AQ.skipU 29 rfl (by kernel_rfl) (by kernel_rfl) (by kernel_rfl) rfl rfl hO ?_
        refine AQ.skipU 30 rfl (by kernel_rfl) (by kernel_rfl) (by kernel_rfl) rfl rfl hO ?_
        refine AQ.skipU 31 rfl (by kernel_rfl) (by kernel_rfl) (by kernel_rfl) rfl rfl hO ?_
        refine AQ.skip 32 rfl (by kernel_rfl) (by kernel_rfl) (by kernel_rfl) rfl rfl (deF cc12) hO ?_
        refine AQ.pure 33 rfl (by kernel_rfl) (by kernel_rfl) (by kernel_rfl) rfl hO (fun w => x_pickFV (v := .bool false) rfl (deF cc12) rfl) ?_
        refine AQ.done (by kernel_rfl) ?_
        refine FW.condF rfl rfl ?_
        refine FW.exit ?_
        exact ⟨n2, J1, (Option.some.inj H), ⟨rfl, trivial⟩, hL4, S⟩
  · rintro σ w ⟨n9, J8, ho, hσ, hL4, S⟩
    subst ho
    have H := HO6
    have x0h2 := x0h2.mono hL4
    have hI := hI.trans hL4
    have hG := hG.mono hL4
    rw [hσ.eq]
    refine FW.seq ?_
    refine FW.seq ?_
    have S := S.drew
    refine FW.regionD mixed ?_
    have hO := Hold.nil (w := { w with drawn := w.drawn + 1 })
    refine AQ.pure 0 rfl (by kernel_rfl) (by kernel_rfl) (by kernel_rfl) rfl hO (fun w => x_movV (v := .pointer (some ⟨bx0, 0, none⟩)) rfl) ?_
    refine AQ.pure 1 rfl (by kernel_rfl) (by kernel_rfl) (by kernel_rfl) rfl hO (fun w => x_nk rfl) ?_
    refine AQ.pure 2 rfl (by kernel_rfl) (by kernel_rfl) (by kernel_rfl) rfl hO (fun w => x_fa tf62_1 rfl) ?_
    have hR19 := IMem.le.refl J8
    refine AQ.take (S := Stab J8 [.bk bx0 62 [.string x0.S, .int .i64 n9, x0v2, .bool x0.Bad]]) 3 rfl (by kernel_rfl) (by kernel_rfl) (by kernel_rfl) rfl hO (Stab.of S 0 rfl hR19) (fun w hS => x_ld tsc3 rfl (hS.load 0 rfl 1 rfl)) fun hO => ?_
    refine AQ.pure 4 rfl (by kernel_rfl) (by kernel_rfl) (by kernel_rfl) rfl hO (fun w => x_movV (v := .pointer (some ⟨bx0, 0, none⟩)) rfl) ?_
    refine AQ.pure 5 rfl (by kernel_rfl) (by kernel_rfl) (by kernel_rfl) rfl hO (fun w => x_nk rfl) ?_
    refine AQ.pure 6 rfl (by kernel_rfl) (by kernel_rfl) (by kernel_rfl) rfl hO (fun w => x_fa tf62_0 rfl) ?_
    refine AQ.take (S := Stab J8 [.bk bx0 62 [.string x0.S, .int .i64 n9, x0v2, .bool x0.Bad]]) 7 rfl (by kernel_rfl) (by kernel_rfl) (by kernel_rfl) rfl hO (Stab.of S 0 rfl hR19) (fun w hS => x_ld tsc9 rfl (hS.load 0 rfl 0 rfl)) fun hO => ?_
    refine AQ.pure 8 rfl (by kernel_rfl) (by kernel_rfl) (by kernel_rfl) rfl hO (fun w => x_lens tstr9 rfl) ?_
    refine AQ.pure 9 rfl (by kernel_rfl) (by kernel_rfl) (by kernel_rfl) rfl hO (fun w => x_bin rfl rfl rfl) ?_
    refine AQ.done (by kernel_rfl) ?_
    by_cases cc20 : n9 = (x0.S.size : Int)
    · rw [if_pos cc20] at H
      refine FW.condT rfl (eqT cc20) ?_
      refine FW.seq ?_
      refine FW.anew [] trivial fun σ => ?_
      refine FW.region ?_
      refine U rfl rfl (V (x_asgV (v := .int .u8 0) rfl) ?_)
      refine FW.ret ?_
      obtain rfl := Option.some.inj H
      exact ⟨_, ⟨_, rfl, rfl⟩, ⟨x0v2, J8, hI, rfl, x0h2, S⟩⟩
    · rw [if_neg cc20] at H
      refine FW.condF rfl (eqF cc20) ?_
      refine FW.skip ?_
      refine FW.seq ?_
      refine FW.anew [(0, .pointer (some ⟨bx0, 0, none⟩))] ⟨rfl, trivial⟩ fun σ => ?_
      have S := S.drew
      refine FW.regionD mixed ?_
      have hO := Hold.nil (w := { w with drawn := w.drawn + 1 })
      refine AQ.pure 0 rfl (by kernel_rfl) (by kernel_rfl) (by kernel_rfl) rfl hO (fun w => x_movV (v := .pointer (some ⟨bx0, 0, none⟩)) rfl) ?_
      refine AQ.pure 1 rfl (by kernel_rfl) (by kernel_rfl) (by kernel_rfl) rfl hO (fun w => x_nk rfl) ?_
      refine AQ.pure 2 rfl (by kernel_rfl) (by kernel_rfl) (by kernel_rfl) rfl hO (fun w => x_fa tf62_0 rfl) ?_
      have hR21 := IMem.le.refl J8
      refine AQ.take (S := Stab J8 [.bk bx0 62 [.string x0.S, .int .i64 n9, x0v2, .bool x0.Bad]]) 3 rfl (by kernel_rfl) (by kernel_rfl) (by kernel_rfl) rfl hO (Stab.of S 0 rfl hR21) (fun w hS => x_ld tsc9 rfl (hS.load 0 rfl 0 rfl)) fun hO => ?_
      refine AQ.pure 4 rfl (by kernel_rfl) (by kernel_rfl) (by kernel_rfl) rfl hO (fun w => x_movV (v := .pointer (some ⟨bx0, 0, none⟩)) rfl) ?_
      refine AQ.pure 5 rfl (by kernel_rfl) (by kernel_rfl) (by kernel_rfl) rfl hO (fun w => x_nk rfl) ?_
      refine AQ.pure 6 rfl (by kernel_rfl) (by kernel_rfl) (by kernel_rfl) rfl hO (fun w => x_fa tf62_1 rfl) ?_
      refine AQ.take (S := Stab J8 [.bk bx0 62 [.string x0.S, .int .i64 n9, x0v2, .bool x0.Bad]]) 7 rfl (by kernel_rfl) (by kernel_rfl) (by kernel_rfl) rfl hO (Stab.of S 0 rfl hR21) (fun w hS => x_ld tsc3 rfl (hS.load 0 rfl 1 rfl)) fun hO => ?_
      obtain ⟨y22, h23, H⟩ := obx H
      refine AQ.pure 8 rfl (by kernel_rfl) (by kernel_rfl) (by kernel_rfl) rfl hO (fun w => x_sat tstr9 rfl rfl h23) ?_
      refine AQ.pure 9 rfl (by kernel_rfl) (by kernel_rfl) (by kernel_rfl) rfl hO (fun w => x_asgV (v := .int .u8 y22) rfl) ?_
      refine AQ.done (by kernel_rfl) ?_
      refine FW.ret ?_
      obtain rfl := Option.some.inj H
      exact ⟨_, ⟨_, rfl, rfl⟩, ⟨x0v2, J8, hI, rfl, x0h2, S⟩⟩
def speculumref11_P_put.f (k : Nat) (x0 : T_speculumref11_P) (x1 : T_speculumref11_Node) : Option (Int × T_speculumref11_P) := ((app 88 x0.N [x1]).bind fun l7 => (some ((i64 ((l7.length : Int) - 1)), (T_speculumref11_P.mk x0.S x0.At l7 x0.Bad))))
abbrev speculumref11_P_put.C (k : Nat) : Prop := ∀ {x0 : T_speculumref11_P} {x1 : T_speculumref11_Node} {x0v2 : Value} {x1v1 : Value} {x1v2 : Value} {x1v3 : Value} {bx0 : Nat} {F : List It} {I : IMem} {w : World} {r : Int × T_speculumref11_P}, Glob I → Own I w (.bk bx0 62 [.string x0.S, .int .i64 x0.At, x0v2, .bool x0.Bad] :: .tv x0v2 77 6 :: F) → SlR R_speculumref11_Node I x0v2 x0.N → SlR (tInt' .i64) I x1v1 x1.Kids → SlR (tInt' .i64) I x1v2 x1.From → SlR (tInt' .i64) I x1v3 x1.To → speculumref11_P_put.f k x0 x1 = some r →
    Calls Tryd.prog 33 #[.pointer (some ⟨bx0, 0, none⟩), .agg #[.int .u8 x1.Kind, x1v1, x1v2, x1v3, .bool x1.Not, .bool x1.Num]] w fun e w' => ∃ v, e = .returned v ∧ ∃ (y_1v2 : Value) (J : IMem), I.le J ∧ v = .int .i64 r.1 ∧ SlR R_speculumref11_Node J y_1v2 r.2.N ∧ Own J w' (.bk bx0 62 [.string r.2.S, .int .i64 r.2.At, y_1v2, .bool r.2.Bad] :: .tv y_1v2 77 6 :: F)
theorem speculumref11_P_put.ok (k : Nat) : speculumref11_P_put.C k := by
  intro x0 x1 x0v2 x1v1 x1v2 x1v3 bx0 F I w r hG S x0h2 x1h1 x1h2 x1h3 H
  have hI := IMem.le.refl I
  rw [speculumref11_P_put.f] at H
  refine Calls.ofFW (args := [.pointer (some ⟨bx0, 0, none⟩), .agg #[.int .u8 x1.Kind, x1v1, x1v2, x1v3, .bool x1.Not, .bool x1.Num]]) Tryd.func33 rfl rfl ?_
  refine FW.seq ?_
  refine FW.region ?_
  refine U rfl rfl (o_boxA rfl S fun b1 w S => ?_)
  refine U rfl rfl (V (x_asgV (v := .int .i64 0) rfl) ?_)
  refine FW.seq ?_
  have S := S.drew
  refine FW.regionD mixed ?_
  have hO := Hold.nil (w := { w with drawn := w.drawn + 1 })
  refine AQ.pure 0 rfl (by kernel_rfl) (by kernel_rfl) (by kernel_rfl) rfl hO (fun w => x_movV (v := .pointer (some ⟨bx0, 0, none⟩)) rfl) ?_
  refine AQ.pure 1 rfl (by kernel_rfl) (by kernel_rfl) (by kernel_rfl) rfl hO (fun w => x_movV (v := .pointer (some ⟨bx0, 0, none⟩)) rfl) ?_
  refine AQ.pure 2 rfl (by kernel_rfl) (by kernel_rfl) (by kernel_rfl) rfl hO (fun w => x_nk rfl) ?_
  refine AQ.pure 3 rfl (by kernel_rfl) (by kernel_rfl) (by kernel_rfl) rfl hO (fun w => x_fa tf62_2 rfl) ?_
  have hR2 := IMem.le.refl I
  refine AQ.take (S := Stab I [.bk bx0 62 [.string x0.S, .int .i64 x0.At, x0v2, .bool x0.Bad]]) 4 rfl (by kernel_rfl) (by kernel_rfl) (by kernel_rfl) rfl hO (Stab.of S 1 rfl hR2) (fun w hS => x_ld tsc60 rfl (hS.load 0 rfl 2 rfl)) fun hO => ?_
  refine AQ.take (S := Stab I [.bk b1 77 [.int .u8 x1.Kind, x1v1, x1v2, x1v3, .bool x1.Not, .bool x1.Num]]) 5 rfl (by kernel_rfl) (by kernel_rfl) (by kernel_rfl) rfl hO (Stab.of S 0 rfl hR2) (fun w hS => x_ldA tag77 rfl (hS.loadW 0 rfl) rfl) fun hO => ?_
  refine AQ.one 6 [5, 4] [false, true] (by kernel_rfl) rfl (by kernel_rfl) ?_
  refine U rfl rfl (o_bsl tsl60 tz77 rfl rfl rfl rfl (.agg PC.nil) rfl S fun b3 w S => ?_)
  obtain ⟨J4, hJ6, S, h5⟩ := S.freeze (r := R_speculumref11_Node) (l := [x1]) 0 rfl ⟨[.int .u8 x1.Kind, x1v1, x1v2, x1v3, .bool x1.Not, .bool x1.Num], _, rfl, ⟨x1v1, x1v2, x1v3, rfl, x1h1, x1h2, x1h3⟩, rfl⟩ rfl rfl
  have x0h2 := x0h2.mono hJ6
  have x1h1 := x1h1.mono hJ6
  have x1h2 := x1h2.mono hJ6
  have x1h3 := x1h3.mono hJ6
  have hI := hI.trans hJ6
  have hR2 := hR2.trans hJ6
  have hG := hG.mono hJ6
  refine andI (Hold.cons (Stab.of S 2 rfl hR2) Hold.nil) fun hO => ?_
  refine AQ.one 7 [4] [false] (by kernel_rfl) rfl (by kernel_rfl) ?_
  obtain ⟨l7, h9, H⟩ := obx H
  refine U rfl rfl (o_appD (r := R_speculumref11_Node) tsl60 rfl tz77 rfl rfl S 3 rfl rfl x0h2 h5 h9 fun v8 w J11 hJ12 S h10 => ?_)
  have x0h2 := x0h2.mono hJ12
  have x1h1 := x1h1.mono hJ12
  have x1h2 := x1h2.mono hJ12
  have x1h3 := x1h3.mono hJ12
  have h5 := h5.mono hJ12
  have hI := hI.trans hJ12
  have hR2 := hR2.trans hJ12
  have hG := hG.mono hJ12
  refine andI Hold.nil fun hO => ?_
  refine AQ.pure 8 rfl (by kernel_rfl) (by kernel_rfl) (by kernel_rfl) rfl hO (fun w => x_nk rfl) ?_
  refine AQ.pure 9 rfl (by kernel_rfl) (by kernel_rfl) (by kernel_rfl) rfl hO (fun w => x_fa tf62_2 rfl) ?_
  refine AQ.one 10 [] [] (by kernel_rfl) rfl (by kernel_rfl) ?_
  refine U rfl rfl (o_st tone60 S 2 rfl rfl rfl h10.one fun w S => ?_)
  refine andI Hold.nil fun hO => ?_
  refine AQ.done (by kernel_rfl) ?_
  refine FW.seq ?_
  refine FW.anew [(0, .pointer (some ⟨bx0, 0, none⟩))] ⟨rfl, trivial⟩ fun σ => ?_
  refine FW.region ?_
  refine U rfl rfl (V (x_movV (v := .pointer (some ⟨bx0, 0, none⟩)) rfl) ?_)
  refine U rfl rfl (V (x_nk rfl) ?_)
  refine U rfl rfl (V (x_fa tf62_2 rfl) ?_)
  refine U rfl rfl (V (x_ld tsc60 rfl (S.load 2 rfl 2 rfl)) ?_)
  refine U rfl rfl (V (x_lenD (r := R_speculumref11_Node) tsl60 h10) ?_)
  refine U rfl rfl (V (x_bin rfl rfl rfl) ?_)
  refine U rfl rfl (V (x_asgV (v := .int .i64 (i64 ((l7.length : Int) - 1))) rfl) ?_)
  refine FW.ret ?_
  obtain rfl := Option.some.inj H
  exact ⟨_, ⟨_, rfl, rfl⟩, ⟨v8, J11, hI, rfl, h10, (S.sel 4 [2, 3] rfl)⟩⟩
def speculumref11_digit.f (k : Nat) (x0 : Int) : Option Bool := (if x0 ≥ 48 then (some (decide (x0 ≤ 57))) else (some false))
abbrev speculumref11_digit.C (k : Nat) : Prop := ∀ {x0 : Int} {F : List It} {I : IMem} {w : World} {r : Bool}, Glob I → Own I w (F) → speculumref11_digit.f k x0 = some r →
    Calls Tryd.prog 51 #[.int .u8 x0] w fun e w' => ∃ v, e = .returned v ∧ v = .bool r ∧ Own I w' (F)
theorem speculumref11_digit.ok (k : Nat) : speculumref11_digit.C k := by
  intro x0 F I w r hG S H
  have hI := IMem.le.refl I
  rw [speculumref11_digit.f] at H
  refine Calls.ofFW (args := [.int .u8 x0]) Tryd.func51 rfl rfl ?_
  refine FW.seq ?_
  refine FW.region ?_
  refine U rfl rfl (V (x_asgV (v := .bool false) rfl) ?_)
  refine FW.seq ?_
  refine FW.region ?_
  refine U rfl rfl (V (x_movV (v := .int .u8 x0) rfl) ?_)
  refine U rfl rfl (V (x_bin rfl rfl rfl) ?_)
  refine U rfl rfl (V (x_movV (v := .bool (decide (x0 ≥ 48))) rfl) ?_)
  by_cases cc1 : x0 ≥ 48
  · rw [if_pos cc1] at H
    refine OK.gt rfl rfl rfl (deT cc1) (V (x_movV (v := .int .u8 x0) rfl) ?_)
    refine OK.gt rfl rfl rfl (deT cc1) (V (x_bin rfl rfl rfl) ?_)
    refine U rfl rfl (V (x_pickTV (v := .bool (decide (x0 ≤ 57))) rfl (deT cc1) rfl) ?_)
    refine U rfl rfl (V (x_asgV (v := .bool (decide (x0 ≤ 57))) rfl) ?_)
    refine FW.ret ?_
    obtain rfl := Option.some.inj H
    exact ⟨_, ⟨_, rfl, rfl⟩, ⟨rfl, (S.weaken hI)⟩⟩
  · rw [if_neg cc1] at H
    refine OK.gf rfl rfl rfl (deF cc1) ?_
    refine OK.gf rfl rfl rfl (deF cc1) ?_
    refine U rfl rfl (V (x_pickFV (v := .bool false) rfl (deF cc1) rfl) ?_)
    refine U rfl rfl (V (x_asgV (v := .bool false) rfl) ?_)
    refine FW.ret ?_
    obtain rfl := Option.some.inj H
    exact ⟨_, ⟨_, rfl, rfl⟩, ⟨rfl, (S.weaken hI)⟩⟩
def speculumref01_Text.l0 : Nat → ByteArray → Int → Option ByteArray
  | 0, _, _ => none
  | k + 1, s3, n4 => (if n4 = 0 then (some s3) else (if (n4.tmod 10) < 0 then ((scutLR (⟨#[48, 49, 50, 51, 52, 53, 54, 55, 56, 57]⟩) (i64 (0 - (n4.tmod 10))) (i64 ((i64 (0 - (n4.tmod 10))) + 1))).bind fun s16 => ((scat s16 s3).bind fun s17 => (speculumref01_Text.l0 k s17 (i64 (n4.tdiv 10))))) else ((scutLR (⟨#[48, 49, 50, 51, 52, 53, 54, 55, 56, 57]⟩) (n4.tmod 10) (i64 ((n4.tmod 10) + 1))).bind fun s20 => ((scat s20 s3).bind fun s21 => (speculumref01_Text.l0 k s21 (i64 (n4.tdiv 10)))))))
def speculumref01_Text.f (k : Nat) (x0 : Int) : Option ByteArray := (if x0 = 0 then (some (⟨#[48]⟩)) else ((speculumref01_Text.l0 k (⟨#[]⟩) x0).bind fun s11 => (if x0 < 0 then ((scat (⟨#[45]⟩) s11).bind fun s24 => (some s24)) else (some s11))))
abbrev speculumref01_Text.C (k : Nat) : Prop := ∀ {x0 : Int} {F : List It} {I : IMem} {w : World} {r : ByteArray}, Glob I → Own I w (F) → speculumref01_Text.f k x0 = some r →
    Calls Tryd.prog 59 #[.int .i64 x0] w fun e w' => ∃ v, e = .returned v ∧ v = .string r ∧ Own I w' (F)
theorem speculumref01_Text.ok (k : Nat) : speculumref01_Text.C k := by
  intro x0 F I w r hG S H
  have hI := IMem.le.refl I
  rw [speculumref01_Text.f] at H
  refine Calls.ofFW (args := [.int .i64 x0]) Tryd.func59 rfl rfl ?_
  refine FW.seq ?_
  refine FW.region ?_
  refine U rfl rfl (V (x_asgV (v := .string (⟨#[]⟩)) rfl) ?_)
  refine FW.seq ?_
  refine FW.seq ?_
  refine FW.region ?_
  refine U rfl rfl (V (x_movV (v := .int .i64 x0) rfl) ?_)
  refine U rfl rfl (V (x_bin rfl rfl rfl) ?_)
  by_cases cc1 : x0 = 0
  · rw [if_pos cc1] at H
    refine FW.condT rfl (eqT cc1) ?_
    refine FW.seq ?_
    refine FW.region ?_
    refine U rfl rfl (V (x_asgV (v := .string (⟨#[48]⟩)) rfl) ?_)
    refine FW.ret ?_
    obtain rfl := Option.some.inj H
    exact ⟨_, ⟨_, rfl, rfl⟩, ⟨rfl, (S.weaken hI)⟩⟩
  · rw [if_neg cc1] at H
    refine FW.condF rfl (eqF cc1) ?_
    refine FW.skip ?_
    refine FW.seq ?_
    refine FW.region ?_
    refine U rfl rfl (V (x_asgV (v := .string (⟨#[]⟩)) rfl) ?_)
    refine FW.seq ?_
    refine FW.region ?_
    refine U rfl rfl (V (x_movV (v := .int .i64 x0) rfl) ?_)
    refine U rfl rfl (V (x_asgV (v := .int .i64 x0) rfl) ?_)
    refine FW.seq ?_
    refine FW.block ?_
    obtain ⟨o7, hl9, HO8⟩ := obx H
    refine FW.cutX 0 (fun σ w => ∃ (s11 : ByteArray) (J10 : IMem), s11 = o7 ∧ Has σ [(0, .int .i64 x0), (3, .string s11)] ∧ I.le J10 ∧ Own J10 w (F)) ?_ ?_
    ·
      refine FW.loop k (FL.ind (fun q σ w => ∃ (s3 : ByteArray) (n4 : Int) (J2 : IMem), speculumref01_Text.l0 q s3 n4 = some o7 ∧ q ≤ k ∧ Has σ [(0, .int .i64 x0), (3, .string s3), (4, .int .i64 n4)] ∧ I.le J2 ∧ Own J2 w (F)) ?_ ?_ k k _ _ (Nat.le_refl _) ⟨(⟨#[]⟩), x0, I, hl9, Nat.le_refl _, ⟨rfl, rfl, rfl, trivial⟩, (IMem.le.refl _), S⟩)
      · rintro σ w ⟨s3, n4, J2, H, _⟩; cases H
      · rintro q5 σ w ⟨s3, n4, J2, H, hq12, hσ, hL6, S⟩
        have hI := hI.trans hL6
        have hG := hG.mono hL6
        rw [hσ.eq]
        rw [speculumref01_Text.l0] at H
        refine FW.seq ?_
        refine FW.seq ?_
        refine FW.region ?_
        refine U rfl rfl (V (x_movV (v := .int .i64 n4) rfl) ?_)
        refine U rfl rfl (V (x_bin rfl rfl rfl) ?_)
        by_cases cc13 : n4 = 0
        · rw [if_pos cc13] at H
          refine FW.condF rfl (neF cc13) ?_
          refine FW.exit ?_
          exact ⟨s3, J2, (Option.some.inj H), ⟨rfl, rfl, trivial⟩, hL6, S⟩
        · rw [if_neg cc13] at H
          refine FW.condT rfl (neT cc13) ?_
          refine FW.skip ?_
          refine FW.block ?_
          refine FW.seq ?_
          refine FW.region ?_
          refine U rfl rfl (V (x_movV (v := .int .i64 n4) rfl) ?_)
          refine U rfl rfl (V (x_rem rfl rfl (by decide)) ?_)
          refine U rfl rfl (V (x_asgV (v := .int .i64 (n4.tmod 10)) rfl) ?_)
          refine FW.seq ?_
          refine FW.seq ?_
          refine FW.region ?_
          refine U rfl rfl (V (x_movV (v := .int .i64 (n4.tmod 10)) rfl) ?_)
          refine U rfl rfl (V (x_bin rfl rfl rfl) ?_)
          by_cases cc14 : (n4.tmod 10) < 0
          · rw [if_pos cc14] at H
            refine FW.condT rfl (deT cc14) ?_
            refine FW.anew [(0, .int .i64 x0), (3, .string s3), (4, .int .i64 n4), (5, .int .i64 (n4.tmod 10))] ⟨rfl, rfl, rfl, rfl, trivial⟩ fun σ => ?_
            refine FW.region ?_
            refine U rfl rfl (V (x_movV (v := .int .i64 (n4.tmod 10)) rfl) ?_)
            refine U rfl rfl (V (x_neg rfl) ?_)
            refine U rfl rfl (V (x_asgV (v := .int .i64 (i64 (0 - (n4.tmod 10)))) rfl) ?_)
            refine FW.seq ?_
            refine FW.region ?_
            refine U rfl rfl (V (x_movV (v := .int .i64 (i64 (0 - (n4.tmod 10)))) rfl) ?_)
            refine U rfl rfl (V (x_movV (v := .int .i64 (i64 (0 - (n4.tmod 10)))) rfl) ?_)
            refine U rfl rfl (V (x_bin rfl rfl rfl) ?_)
            obtain ⟨s16, h15, H⟩ := obx H
            refine U rfl rfl (o_scutLR tstr9 rfl rfl rfl h15 ?_)
            refine U rfl rfl (V (x_movV (v := .string s3) rfl) ?_)
            obtain ⟨s17, h18, H⟩ := obx H
            refine U rfl rfl (V (x_catD rfl rfl h18) ?_)
            refine U rfl rfl (V (x_asgV (v := .string s17) rfl) ?_)
            refine FW.anew [(0, .int .i64 x0), (3, .string s17), (4, .int .i64 n4)] ⟨rfl, rfl, rfl, trivial⟩ fun σ => ?_
            refine FW.region ?_
            refine U rfl rfl (V (x_movV (v := .int .i64 n4) rfl) ?_)
            refine U rfl rfl (V (x_quo rfl rfl (by decide)) ?_)
            refine U rfl rfl (V (x_asgV (v := .int .i64 (i64 (n4.tdiv 10))) rfl) ?_)
            exact ⟨q5, Nat.le_refl _, s17, (i64 (n4.tdiv 10)), J2, H, (Nat.le_of_succ_le hq12), ⟨rfl, rfl, rfl, trivial⟩, hL6, S⟩
          · rw [if_neg cc14] at H
            refine FW.condF rfl (deF cc14) ?_
            refine FW.skip ?_
            refine FW.seq ?_
            refine FW.anew [(0, .int .i64 x0), (3, .string s3), (4, .int .i64 n4), (5, .int .i64 (n4.tmod 10))] ⟨rfl, rfl, rfl, rfl, trivial⟩ fun σ => ?_
            refine FW.region ?_
            refine U rfl rfl (V (x_movV (v := .int .i64 (n4.tmod 10)) rfl) ?_)
            refine U rfl rfl (V (x_movV (v := .int .i64 (n4.tmod 10)) rfl) ?_)
            refine U rfl rfl (V (x_bin rfl rfl rfl) ?_)
            obtain ⟨s20, h19, H⟩ := obx H
            refine U rfl rfl (o_scutLR tstr9 rfl rfl rfl h19 ?_)
            refine U rfl rfl (V (x_movV (v := .string s3) rfl) ?_)
            obtain ⟨s21, h22, H⟩ := obx H
            refine U rfl rfl (V (x_catD rfl rfl h22) ?_)
            refine U rfl rfl (V (x_asgV (v := .string s21) rfl) ?_)
            refine FW.anew [(0, .int .i64 x0), (3, .string s21), (4, .int .i64 n4)] ⟨rfl, rfl, rfl, trivial⟩ fun σ => ?_
            refine FW.region ?_
            refine U rfl rfl (V (x_movV (v := .int .i64 n4) rfl) ?_)
            refine U rfl rfl (V (x_quo rfl rfl (by decide)) ?_)
            refine U rfl rfl (V (x_asgV (v := .int .i64 (i64 (n4.tdiv 10))) rfl) ?_)
            exact ⟨q5, Nat.le_refl _, s21, (i64 (n4.tdiv 10)), J2, H, (Nat.le_of_succ_le hq12), ⟨rfl, rfl, rfl, trivial⟩, hL6, S⟩
    · rintro σ w ⟨s11, J10, ho, hσ, hL6, S⟩
      subst ho
      have H := HO8
      have hI := hI.trans hL6
      have hG := hG.mono hL6
      rw [hσ.eq]
      refine FW.seq ?_
      refine FW.seq ?_
      refine FW.region ?_
      refine U rfl rfl (V (x_movV (v := .int .i64 x0) rfl) ?_)
      refine U rfl rfl (V (x_bin rfl rfl rfl) ?_)
      by_cases cc23 : x0 < 0
      · rw [if_pos cc23] at H
        refine FW.condT rfl (deT cc23) ?_
        refine FW.seq ?_
        refine FW.region ?_
        refine U rfl rfl (V (x_movV (v := .string s11) rfl) ?_)
        obtain ⟨s24, h25, H⟩ := obx H
        refine U rfl rfl (V (x_catD rfl rfl h25) ?_)
        refine U rfl rfl (V (x_asgV (v := .string s24) rfl) ?_)
        refine FW.ret ?_
        obtain rfl := Option.some.inj H
        exact ⟨_, ⟨_, rfl, rfl⟩, ⟨rfl, (S.weaken hI)⟩⟩
      · rw [if_neg cc23] at H
        refine FW.condF rfl (deF cc23) ?_
        refine FW.skip ?_
        refine FW.seq ?_
        refine FW.region ?_
        refine U rfl rfl (V (x_movV (v := .string s11) rfl) ?_)
        refine U rfl rfl (V (x_asgV (v := .string s11) rfl) ?_)
        refine FW.ret ?_
        obtain rfl := Option.some.inj H
        exact ⟨_, ⟨_, rfl, rfl⟩, ⟨rfl, (S.weaken hI)⟩⟩
def speculumref01_Int.l0 : Nat → ByteArray → Int → Int → Option Int
  | 0, _, _, _ => none
  | k + 1, x0, n2, n3 => (if n3 < (x0.size : Int) then (if n3 < 12 then ((sat x0 n3).bind fun y14 => (speculumref01_Int.l0 k x0 (i64 ((i64 ((i64 (10 * n2)) + (i64 y14))) - 48)) (i64 (n3 + 1)))) else (some n2)) else (some n2))
def speculumref01_Int.f (k : Nat) (x0 : ByteArray) : Option (Int × Bool) := ((speculumref01_Int.l0 k x0 0 0).bind fun n10 => (if n10 < 0 then (some (0, false)) else (if n10 > 4294967295 then (some (0, false)) else ((speculumref01_Text.f k n10).bind fun y18 => (if y18 = x0 then (some (n10, true)) else (some (0, false)))))))
abbrev speculumref01_Int.C (k : Nat) : Prop := ∀ {x0 : ByteArray} {F : List It} {I : IMem} {w : World} {r : Int × Bool}, Glob I → Own I w (F) → speculumref01_Int.f k x0 = some r →
    Calls Tryd.prog 56 #[.string x0] w fun e w' => ∃ v, e = .returned v ∧ v = .tuple #[.int .i64 r.1, .bool r.2] ∧ Own I w' (F)
theorem speculumref01_Int.ok (k : Nat) : speculumref01_Int.C k := by
  intro x0 F I w r hG S H
  have hI := IMem.le.refl I
  rw [speculumref01_Int.f] at H
  refine Calls.ofFW (args := [.string x0]) Tryd.func56 rfl rfl ?_
  refine FW.seq ?_
  refine FW.region ?_
  refine U rfl rfl (V (x_asgV (v := .int .i64 0) rfl) ?_)
  refine U rfl rfl (V (x_asgV (v := .bool false) rfl) ?_)
  refine FW.seq ?_
  refine FW.region ?_
  refine U rfl rfl (V (x_asgV (v := .int .i64 0) rfl) ?_)
  refine FW.seq ?_
  refine FW.seq ?_
  refine FW.region ?_
  refine U rfl rfl (V (x_asgV (v := .int .i64 0) rfl) ?_)
  refine FW.block ?_
  obtain ⟨o6, hl8, HO7⟩ := obx H
  refine FW.cutX 0 (fun σ w => ∃ (n10 : Int) (J9 : IMem), n10 = o6 ∧ Has σ [(0, .string x0), (4, .int .i64 n10)] ∧ I.le J9 ∧ Own J9 w (F)) ?_ ?_
  ·
    refine FW.loop k (FL.ind (fun q σ w => ∃ (n2 : Int) (n3 : Int) (J1 : IMem), speculumref01_Int.l0 q x0 n2 n3 = some o6 ∧ q ≤ k ∧ Has σ [(0, .string x0), (4, .int .i64 n2), (5, .int .i64 n3)] ∧ I.le J1 ∧ Own J1 w (F)) ?_ ?_ k k _ _ (Nat.le_refl _) ⟨0, 0, I, hl8, Nat.le_refl _, ⟨rfl, rfl, rfl, trivial⟩, (IMem.le.refl _), S⟩)
    · rintro σ w ⟨n2, n3, J1, H, _⟩; cases H
    · rintro q4 σ w ⟨n2, n3, J1, H, hq11, hσ, hL5, S⟩
      have hI := hI.trans hL5
      have hG := hG.mono hL5
      rw [hσ.eq]
      rw [speculumref01_Int.l0] at H
      refine FW.seq ?_
      refine FW.seq ?_
      refine FW.region ?_
      refine U rfl rfl (V (x_movV (v := .int .i64 n3) rfl) ?_)
      refine U rfl rfl (V (x_movV (v := .string x0) rfl) ?_)
      refine U rfl rfl (V (x_lens tstr9 rfl) ?_)
      refine U rfl rfl (V (x_bin rfl rfl rfl) ?_)
      refine U rfl rfl (V (x_movV (v := .bool (decide (n3 < (x0.size : Int)))) rfl) ?_)
      by_cases cc12 : n3 < (x0.size : Int)
      · rw [if_pos cc12] at H
        refine OK.gt rfl rfl rfl (deT cc12) (V (x_movV (v := .int .i64 n3) rfl) ?_)
        refine OK.gt rfl rfl rfl (deT cc12) (V (x_bin rfl rfl rfl) ?_)
        refine U rfl rfl (V (x_pickTV (v := .bool (decide (n3 < 12))) rfl (deT cc12) rfl) ?_)
        by_cases cc13 : n3 < 12
        · rw [if_pos cc13] at H
          refine FW.condT rfl (deT cc13) ?_
          refine FW.skip ?_
          refine FW.seq ?_
          refine FW.block ?_
          refine FW.anew [(0, .string x0), (4, .int .i64 n2), (5, .int .i64 n3)] ⟨rfl, rfl, rfl, trivial⟩ fun σ => ?_
          refine FW.region ?_
          refine U rfl rfl (V (x_movV (v := .int .i64 n2) rfl) ?_)
          refine U rfl rfl (V (x_bin rfl rfl rfl) ?_)
          refine U rfl rfl (V (x_movV (v := .string x0) rfl) ?_)
          refine U rfl rfl (V (x_movV (v := .int .i64 n3) rfl) ?_)
          obtain ⟨y14, h15, H⟩ := obx H
          refine U rfl rfl (V (x_sat tstr9 rfl rfl h15) ?_)
          refine U rfl rfl (V (x_conv tint3 tint_5 rfl) ?_)
          refine U rfl rfl (V (x_bin rfl rfl rfl) ?_)
          refine U rfl rfl (V (x_bin rfl rfl rfl) ?_)
          refine U rfl rfl (V (x_asgV (v := .int .i64 (i64 ((i64 ((i64 (10 * n2)) + (i64 y14))) - 48))) rfl) ?_)
          refine FW.anew [(0, .string x0), (4, .int .i64 (i64 ((i64 ((i64 (10 * n2)) + (i64 y14))) - 48))), (5, .int .i64 n3)] ⟨rfl, rfl, rfl, trivial⟩ fun σ => ?_
          refine FW.region ?_
          refine U rfl rfl (V (x_movV (v := .int .i64 n3) rfl) ?_)
          refine U rfl rfl (V (x_bin rfl rfl rfl) ?_)
          refine U rfl rfl (V (x_asgV (v := .int .i64 (i64 (n3 + 1))) rfl) ?_)
          exact ⟨q4, Nat.le_refl _, (i64 ((i64 ((i64 (10 * n2)) + (i64 y14))) - 48)), (i64 (n3 + 1)), J1, H, (Nat.le_of_succ_le hq11), ⟨rfl, rfl, rfl, trivial⟩, hL5, S⟩
        · rw [if_neg cc13] at H
          refine FW.condF rfl (deF cc13) ?_
          refine FW.exit ?_
          exact ⟨n2, J1, (Option.some.inj H), ⟨rfl, rfl, trivial⟩, hL5, S⟩
      · rw [if_neg cc12] at H
        refine OK.gf rfl rfl rfl (deF cc12) ?_
        refine OK.gf rfl rfl rfl (deF cc12) ?_
        refine U rfl rfl (V (x_pickFV (v := .bool false) rfl (deF cc12) rfl) ?_)
        refine FW.condF rfl rfl ?_
        refine FW.exit ?_
        exact ⟨n2, J1, (Option.some.inj H), ⟨rfl, rfl, trivial⟩, hL5, S⟩
  · rintro σ w ⟨n10, J9, ho, hσ, hL5, S⟩
    subst ho
    have H := HO7
    have hI := hI.trans hL5
    have hG := hG.mono hL5
    rw [hσ.eq]
    refine FW.seq ?_
    refine FW.seq ?_
    refine FW.region ?_
    refine U rfl rfl (V (x_movV (v := .int .i64 n10) rfl) ?_)
    refine U rfl rfl (V (x_bin rfl rfl rfl) ?_)
    refine U rfl rfl (V (x_movV (v := .bool (decide (n10 < 0))) rfl) ?_)
    by_cases cc16 : n10 < 0
    · rw [if_pos cc16] at H
      refine OK.gf rfl rfl rfl (deT cc16) ?_
      refine OK.gf rfl rfl rfl (deT cc16) ?_
      refine U rfl rfl (V (x_pickTV (v := .bool true) rfl (deT cc16) rfl) ?_)
      refine U rfl rfl (V (x_movV (v := .bool true) rfl) ?_)
      refine OK.gf rfl rfl rfl rfl ?_
      refine OK.gf rfl rfl rfl rfl ?_
      refine OK.gf rfl rfl rfl rfl ?_
      refine OK.gf rfl rfl rfl rfl ?_
      refine U rfl rfl (V (x_pickTV (v := .bool true) rfl rfl rfl) ?_)
      refine FW.condT rfl rfl ?_
      refine FW.seq ?_
      refine FW.region ?_
      refine U rfl rfl (V (x_asgV (v := .int .i64 0) rfl) ?_)
      refine U rfl rfl (V (x_asgV (v := .bool false) rfl) ?_)
      refine FW.ret ?_
      obtain rfl := Option.some.inj H
      exact ⟨_, ⟨_, rfl, ⟨_, rfl, rfl⟩⟩, ⟨rfl, (S.weaken hI)⟩⟩
    · rw [if_neg cc16] at H
      refine OK.gt rfl rfl rfl (deF cc16) (V (x_movV (v := .int .i64 n10) rfl) ?_)
      refine OK.gt rfl rfl rfl (deF cc16) (V (x_bin rfl rfl rfl) ?_)
      refine U rfl rfl (V (x_pickFV (v := .bool (decide (n10 > 4294967295))) rfl (deF cc16) rfl) ?_)
      refine U rfl rfl (V (x_movV (v := .bool (decide (n10 > 4294967295))) rfl) ?_)
      by_cases cc17 : n10 > 4294967295
      · rw [if_pos cc17] at H
        refine OK.gf rfl rfl rfl (deT cc17) ?_
        refine OK.gf rfl rfl rfl (deT cc17) ?_
        refine OK.gf rfl rfl rfl (deT cc17) ?_
        refine OK.gf rfl rfl rfl (deT cc17) ?_
        refine U rfl rfl (V (x_pickTV (v := .bool true) rfl (deT cc17) rfl) ?_)
        refine FW.condT rfl rfl ?_
        refine FW.seq ?_
        refine FW.anew [] trivial fun σ => ?_
        refine FW.region ?_
        refine U rfl rfl (V (x_asgV (v := .int .i64 0) rfl) ?_)
        refine U rfl rfl (V (x_asgV (v := .bool false) rfl) ?_)
        refine FW.ret ?_
        obtain rfl := Option.some.inj H
        exact ⟨_, ⟨_, rfl, ⟨_, rfl, rfl⟩⟩, ⟨rfl, (S.weaken hI)⟩⟩
      · rw [if_neg cc17] at H
        refine OK.gt rfl rfl rfl (deF cc17) (V (x_movV (v := .int .i64 n10) rfl) ?_)
        obtain ⟨y18, hy19, H⟩ := obx H
        refine OK.gt rfl rfl rfl (deF cc17) (cl fb59 (@speculumref01_Text.ok k n10 _ _ _ _ hG S hy19) rfl ?_)
        rintro _ w ⟨rfl, S⟩
        refine OK.gt rfl rfl rfl (deF cc17) (V (x_movV (v := .string x0) rfl) ?_)
        refine OK.gt rfl rfl rfl (deF cc17) (V (x_sne rfl rfl) ?_)
        refine U rfl rfl (V (x_pickFV (v := .bool (!decide (y18 = x0))) rfl (deF cc17) rfl) ?_)
        by_cases cc20 : y18 = x0
        · rw [if_pos cc20] at H
          refine FW.condF rfl (noF (deT cc20)) ?_
          refine FW.skip ?_
          refine FW.seq ?_
          refine FW.anew [(4, .int .i64 n10)] ⟨rfl, trivial⟩ fun σ => ?_
          refine FW.region ?_
          refine U rfl rfl (V (x_movV (v := .int .i64 n10) rfl) ?_)
          refine U rfl rfl (V (x_asgV (v := .int .i64 n10) rfl) ?_)
          refine U rfl rfl (V (x_asgV (v := .bool true) rfl) ?_)
          refine FW.ret ?_
          obtain rfl := Option.some.inj H
          exact ⟨_, ⟨_, rfl, ⟨_, rfl, rfl⟩⟩, ⟨rfl, (S.weaken hI)⟩⟩
        · rw [if_neg cc20] at H
          refine FW.condT rfl (noT (deF cc20)) ?_
          refine FW.seq ?_
          refine FW.anew [] trivial fun σ => ?_
          refine FW.region ?_
          refine U rfl rfl (V (x_asgV (v := .int .i64 0) rfl) ?_)
          refine U rfl rfl (V (x_asgV (v := .bool false) rfl) ?_)
          refine FW.ret ?_
          obtain rfl := Option.some.inj H
          exact ⟨_, ⟨_, rfl, ⟨_, rfl, rfl⟩⟩, ⟨rfl, (S.weaken hI)⟩⟩
def speculumref11_P_num.l0 : Nat → T_speculumref11_P → Int → Option Int
  | 0, _, _ => none
  | k + 1, x0, n2 => (if n2 < (x0.S.size : Int) then ((sat x0.S n2).bind fun y13 => ((speculumref11_digit.f k y13).bind fun y15 => (if y15 = true then (speculumref11_P_num.l0 k x0 (i64 (n2 + 1))) else (some n2)))) else (some n2))
def speculumref11_P_num.f (k : Nat) (x0 : T_speculumref11_P) : Option (Int × T_speculumref11_P) := ((speculumref11_P_num.l0 k x0 x0.At).bind fun n9 => ((scutLR x0.S x0.At n9).bind fun s20 => ((speculumref01_Int.f k s20).bind fun y21 => (if x0.Bad = true then (some (y21.1, (T_speculumref11_P.mk x0.S n9 x0.N true))) else (some (y21.1, (T_speculumref11_P.mk x0.S n9 x0.N (!y21.2))))))))
abbrev speculumref11_P_num.C (k : Nat) : Prop := ∀ {x0 : T_speculumref11_P} {x0v2 : Value} {bx0 : Nat} {F : List It} {I : IMem} {w : World} {r : Int × T_speculumref11_P}, Glob I → Own I w (.bk bx0 62 [.string x0.S, .int .i64 x0.At, x0v2, .bool x0.Bad] :: .tv x0v2 77 6 :: F) → SlR R_speculumref11_Node I x0v2 x0.N → speculumref11_P_num.f k x0 = some r →
    Calls Tryd.prog 52 #[.pointer (some ⟨bx0, 0, none⟩)] w fun e w' => ∃ v, e = .returned v ∧ ∃ (y_1v2 : Value) (J : IMem), I.le J ∧ v = .int .i64 r.1 ∧ SlR R_speculumref11_Node J y_1v2 r.2.N ∧ Own J w' (.bk bx0 62 [.string r.2.S, .int .i64 r.2.At, y_1v2, .bool r.2.Bad] :: .tv y_1v2 77 6 :: F)
theorem speculumref11_P_num.ok (k : Nat) : speculumref11_P_num.C k := by
  intro x0 x0v2 bx0 F I w r hG S x0h2 H
  have hI := IMem.le.refl I
  rw [speculumref11_P_num.f] at H
  refine Calls.ofFW (args := [.pointer (some ⟨bx0, 0, none⟩)]) Tryd.func52 rfl rfl ?_
  refine FW.seq ?_
  refine FW.region ?_
  refine U rfl rfl (V (x_asgV (v := .int .i64 0) rfl) ?_)
  refine FW.seq ?_
  refine FW.region ?_
  refine U rfl rfl (V (x_movV (v := .pointer (some ⟨bx0, 0, none⟩)) rfl) ?_)
  refine U rfl rfl (V (x_nk rfl) ?_)
  refine U rfl rfl (V (x_fa tf62_1 rfl) ?_)
  refine U rfl rfl (V (x_ld tsc3 rfl (S.load 0 rfl 1 rfl)) ?_)
  refine U rfl rfl (V (x_asgV (v := .int .i64 x0.At) rfl) ?_)
  refine FW.seq ?_
  refine FW.block ?_
  obtain ⟨o5, hl7, HO6⟩ := obx H
  refine FW.cutX 0 (fun σ w => ∃ (n9 : Int) (J8 : IMem), n9 = o5 ∧ Has σ [(0, .pointer (some ⟨bx0, 0, none⟩)), (3, .int .i64 x0.At)] ∧ I.le J8 ∧ Own J8 w (.bk bx0 62 [.string x0.S, .int .i64 n9, x0v2, .bool x0.Bad] :: .tv x0v2 77 6 :: F)) ?_ ?_
  ·
    refine FW.loop k (FL.ind (fun q σ w => ∃ (n2 : Int) (J1 : IMem), speculumref11_P_num.l0 q x0 n2 = some o5 ∧ q ≤ k ∧ Has σ [(0, .pointer (some ⟨bx0, 0, none⟩)), (3, .int .i64 x0.At)] ∧ I.le J1 ∧ Own J1 w (.bk bx0 62 [.string x0.S, .int .i64 n2, x0v2, .bool x0.Bad] :: .tv x0v2 77 6 :: F)) ?_ ?_ k k _ _ (Nat.le_refl _) ⟨x0.At, I, hl7, Nat.le_refl _, ⟨rfl, rfl, trivial⟩, (IMem.le.refl _), S⟩)
    · rintro σ w ⟨n2, J1, H, _⟩; cases H
    · rintro q3 σ w ⟨n2, J1, H, hq10, hσ, hL4, S⟩
      have x0h2 := x0h2.mono hL4
      have hI := hI.trans hL4
      have hG := hG.mono hL4
      rw [hσ.eq]
      rw [speculumref11_P_num.l0] at H
      refine FW.seq ?_
      refine FW.seq ?_
      have S := S.drew
      refine FW.regionD mixed ?_
      have hO := Hold.nil (w := { w with drawn := w.drawn + 1 })
      refine AQ.pure 0 rfl (by kernel_rfl) (by kernel_rfl) (by kernel_rfl) rfl hO (fun w => x_movV (v := .pointer (some ⟨bx0, 0, none⟩)) rfl) ?_
      refine AQ.pure 1 rfl (by kernel_rfl) (by kernel_rfl) (by kernel_rfl) rfl hO (fun w => x_nk rfl) ?_
      refine AQ.pure 2 rfl (by kernel_rfl) (by kernel_rfl) (by kernel_rfl) rfl hO (fun w => x_fa tf62_1 rfl) ?_
      have hR11 := IMem.le.refl J1
      refine AQ.take (S := Stab J1 [.bk bx0 62 [.string x0.S, .int .i64 n2, x0v2, .bool x0.Bad]]) 3 rfl (by kernel_rfl) (by kernel_rfl) (by kernel_rfl) rfl hO (Stab.of S 0 rfl hR11) (fun w hS => x_ld tsc3 rfl (hS.load 0 rfl 1 rfl)) fun hO => ?_
      refine AQ.pure 4 rfl (by kernel_rfl) (by kernel_rfl) (by kernel_rfl) rfl hO (fun w => x_movV (v := .pointer (some ⟨bx0, 0, none⟩)) rfl) ?_
      refine AQ.pure 5 rfl (by kernel_rfl) (by kernel_rfl) (by kernel_rfl) rfl hO (fun w => x_nk rfl) ?_
      refine AQ.pure 6 rfl (by kernel_rfl) (by kernel_rfl) (by kernel_rfl) rfl hO (fun w => x_fa tf62_0 rfl) ?_
      refine AQ.take (S := Stab J1 [.bk bx0 62 [.string x0.S, .int .i64 n2, x0v2, .bool x0.Bad]]) 7 rfl (by kernel_rfl) (by kernel_rfl) (by kernel_rfl) rfl hO (Stab.of S 0 rfl hR11) (fun w hS => x_ld tsc9 rfl (hS.load 0 rfl 0 rfl)) fun hO => ?_
      refine AQ.pure 8 rfl (by kernel_rfl) (by kernel_rfl) (by kernel_rfl) rfl hO (fun w => x_lens tstr9 rfl) ?_
      refine AQ.pure 9 rfl (by kernel_rfl) (by kernel_rfl) (by kernel_rfl) rfl hO (fun w => x_bin rfl rfl rfl) ?_
      refine AQ.pure 10 rfl (by kernel_rfl) (by kernel_rfl) (by kernel_rfl) rfl hO (fun w => x_movV (v := .bool (decide (n2 < (x0.S.size : Int)))) rfl) ?_
      by_cases cc12 : n2 < (x0.S.size : Int)
      · rw [if_pos cc12] at H
        refine AQ.pure 11 rfl (by kernel_rfl) (by kernel_rfl) (by kernel_rfl) (gT rfl rfl (deT cc12)) hO (fun w => x_movV (v := .pointer (some ⟨bx0, 0, none⟩)) rfl) ?_
        refine AQ.pure 12 rfl (by kernel_rfl) (by kernel_rfl) (by kernel_rfl) (gT rfl rfl (deT cc12)) hO (fun w => x_nk rfl) ?_
        refine AQ.pure 13 rfl (by kernel_rfl) (by kernel_rfl) (by kernel_rfl) (gT rfl rfl (deT cc12)) hO (fun w => x_fa tf62_0 rfl) ?_
        refine AQ.take (S := Stab J1 [.bk bx0 62 [.string x0.S, .int .i64 n2, x0v2, .bool x0.Bad]]) 14 rfl (by kernel_rfl) (by kernel_rfl) (by kernel_rfl) (gT rfl rfl (deT cc12)) hO (Stab.of S 0 rfl hR11) (fun w hS => x_ld tsc9 rfl (hS.load 0 rfl 0 rfl)) fun hO => ?_
        refine AQ.pure 15 rfl (by kernel_rfl) (by kernel_rfl) (by kernel_rfl) (gT rfl rfl (deT cc12)) hO (fun w => x_movV (v := .pointer (some ⟨bx0, 0, none⟩)) rfl) ?_
        refine AQ.pure 16 rfl (by kernel_rfl) (by kernel_rfl) (by kernel_rfl) (gT rfl rfl (deT cc12)) hO (fun w => x_nk rfl) ?_
        refine AQ.pure 17 rfl (by kernel_rfl) (by kernel_rfl) (by kernel_rfl) (gT rfl rfl (deT cc12)) hO (fun w => x_fa tf62_1 rfl) ?_
        refine AQ.take (S := Stab J1 [.bk bx0 62 [.string x0.S, .int .i64 n2, x0v2, .bool x0.Bad]]) 18 rfl (by kernel_rfl) (by kernel_rfl) (by kernel_rfl) (gT rfl rfl (deT cc12)) hO (Stab.of S 0 rfl hR11) (fun w hS => x_ld tsc3 rfl (hS.load 0 rfl 1 rfl)) fun hO => ?_
        obtain ⟨y13, h14, H⟩ := obx H
        refine AQ.pure 19 rfl (by kernel_rfl) (by kernel_rfl) (by kernel_rfl) (gT rfl rfl (deT cc12)) hO (fun w => x_sat tstr9 rfl rfl h14) ?_
        refine AQ.one 20 [18, 14, 7, 3] [true, true, true, true] (by kernel_rfl) rfl (by kernel_rfl) ?_
        obtain ⟨y15, hy16, H⟩ := obx H
        refine OK.gt rfl rfl rfl (deT cc12) (cl fb51 (@speculumref11_digit.ok q3 y13 _ _ _ _ hG S hy16) rfl ?_)
        rintro _ w ⟨rfl, S⟩
        refine andI (Hold.cons (Stab.of S 0 rfl hR11) (Hold.cons (Stab.of S 0 rfl hR11) (Hold.cons (Stab.of S 0 rfl hR11) (Hold.cons (Stab.of S 0 rfl hR11) Hold.nil)))) fun hO => ?_
        refine AQ.pure 21 rfl (by kernel_rfl) (by kernel_rfl) (by kernel_rfl) rfl hO (fun w => x_pickTV (v := .bool y15) rfl (deT cc12) rfl) ?_
        refine AQ.done (by kernel_rfl) ?_
        by_cases cc17 : y15 = true
        · rw [if_pos cc17] at H
          refine FW.condT rfl cc17 ?_
          refine FW.skip ?_
          refine FW.block ?_
          refine FW.anew [(0, .pointer (some ⟨bx0, 0, none⟩)), (3, .int .i64 x0.At)] ⟨rfl, rfl, trivial⟩ fun σ => ?_
          refine FW.region ?_
          refine U rfl rfl (V (x_movV (v := .pointer (some ⟨bx0, 0, none⟩)) rfl) ?_)
          refine U rfl rfl (V (x_movV (v := .pointer (some ⟨bx0, 0, none⟩)) rfl) ?_)
          refine U rfl rfl (V (x_nk rfl) ?_)
          refine U rfl rfl (V (x_fa tf62_1 rfl) ?_)
          refine U rfl rfl (V (x_ld tsc3 rfl (S.load 0 rfl 1 rfl)) ?_)
          refine U rfl rfl (V (x_bin rfl rfl rfl) ?_)
          refine U rfl rfl (V (x_nk rfl) ?_)
          refine U rfl rfl (V (x_fa tf62_1 rfl) ?_)
          refine U rfl rfl (o_st tone3 S 0 rfl rfl rfl rfl fun w S => ?_)
          exact ⟨q3, Nat.le_refl _, (i64 (n2 + 1)), J1, H, (Nat.le_of_succ_le hq10), ⟨rfl, rfl, trivial⟩, hL4, S⟩
        · rw [if_neg cc17] at H
          refine FW.condF rfl (vaF cc17) ?_
          refine FW.exit ?_
          exact ⟨n2, J1, (Option.some.inj H), ⟨rfl, rfl, trivial⟩, hL4, S⟩
      · rw [if_neg cc12] at H
        refine AQ.skip 11 rfl (by kernel_rfl) (by kernel_rfl) (by kernel_rfl) rfl rfl (deF cc12) hO ?_
        refine AQ.skip 12 rfl (by kernel_rfl) (by kernel_rfl) (by kernel_rfl) rfl rfl (deF cc12) hO ?_
        refine AQ.skip 13 rfl (by kernel_rfl) (by kernel_rfl) (by kernel_rfl) rfl rfl (deF cc12) hO ?_
        refine AQ.skip 14 rfl (by kernel_rfl) (by kernel_rfl) (by kernel_rfl) rfl rfl (deF cc12) hO ?_
        refine AQ.skip 15 rfl (by kernel_rfl) (by kernel_rfl) (by kernel_rfl) rfl rfl (deF cc12) hO ?_
        refine AQ.skip 16 rfl (by kernel_rfl) (by kernel_rfl) (by kernel_rfl) rfl rfl (deF cc12) hO ?_
        refine AQ.skip 17 rfl (by kernel_rfl) (by kernel_rfl) (by kernel_rfl) rfl rfl (deF cc12) hO ?_
        refine AQ.skip 18 rfl (by kernel_rfl) (by kernel_rfl) (by kernel_rfl) rfl rfl (deF cc12) hO ?_
        refine AQ.skip 19 rfl (by kernel_rfl) (by kernel_rfl) (by kernel_rfl) rfl rfl (deF cc12) hO ?_
        refine AQ.skip 20 rfl (by kernel_rfl) (by kernel_rfl) (by kernel_rfl) rfl rfl (deF cc12) hO ?_
        refine AQ.pure 21 rfl (by kernel_rfl) (by kernel_rfl) (by kernel_rfl) rfl hO (fun w => x_pickFV (v := .bool false) rfl (deF cc12) rfl) ?_
        refine AQ.done (by kernel_rfl) ?_
        refine FW.condF rfl rfl ?_
        refine FW.exit ?_
        exact ⟨n2, J1, (Option.some.inj H), ⟨rfl, rfl, trivial⟩, hL4, S⟩
  · rintro σ w ⟨n9, J8, ho, hσ, hL4, S⟩
    subst ho
    have H := HO6
    have x0h2 := x0h2.mono hL4
    have hI := hI.trans hL4
    have hG := hG.mono hL4
    rw [hσ.eq]
    refine FW.seq ?_
    have S := S.drew
    refine FW.regionD mixed ?_
    have hO := Hold.nil (w := { w with drawn := w.drawn + 1 })
    refine AQ.pure 0 rfl (by kernel_rfl) (by kernel_rfl) (by kernel_rfl) rfl hO (fun w => x_movV (v := .pointer (some ⟨bx0, 0, none⟩)) rfl) ?_
    refine AQ.pure 1 rfl (by kernel_rfl) (by kernel_rfl) (by kernel_rfl) rfl hO (fun w => x_nk rfl) ?_
    refine AQ.pure 2 rfl (by kernel_rfl) (by kernel_rfl) (by kernel_rfl) rfl hO (fun w => x_fa tf62_0 rfl) ?_
    have hR18 := IMem.le.refl J8
    refine AQ.take (S := Stab J8 [.bk bx0 62 [.string x0.S, .int .i64 n9, x0v2, .bool x0.Bad]]) 3 rfl (by kernel_rfl) (by kernel_rfl) (by kernel_rfl) rfl hO (Stab.of S 0 rfl hR18) (fun w hS => x_ld tsc9 rfl (hS.load 0 rfl 0 rfl)) fun hO => ?_
    refine AQ.pure 4 rfl (by kernel_rfl) (by kernel_rfl) (by kernel_rfl) rfl hO (fun w => x_movV (v := .int .i64 x0.At) rfl) ?_
    refine AQ.pure 5 rfl (by kernel_rfl) (by kernel_rfl) (by kernel_rfl) rfl hO (fun w => x_movV (v := .pointer (some ⟨bx0, 0, none⟩)) rfl) ?_
    refine AQ.pure 6 rfl (by kernel_rfl) (by kernel_rfl) (by kernel_rfl) rfl hO (fun w => x_nk rfl) ?_
    refine AQ.pure 7 rfl (by kernel_rfl) (by kernel_rfl) (by kernel_rfl) rfl hO (fun w => x_fa tf62_1 rfl) ?_
    refine AQ.take (S := Stab J8 [.bk bx0 62 [.string x0.S, .int .i64 n9, x0v2, .bool x0.Bad]]) 8 rfl (by kernel_rfl) (by kernel_rfl) (by kernel_rfl) rfl hO (Stab.of S 0 rfl hR18) (fun w hS => x_ld tsc3 rfl (hS.load 0 rfl 1 rfl)) fun hO => ?_
    refine AQ.one 9 [8, 3] [false, false] (by kernel_rfl) rfl (by kernel_rfl) ?_
    obtain ⟨s20, h19, H⟩ := obx H
    refine U rfl rfl (o_scutLR tstr9 rfl rfl rfl h19 ?_)
    refine andI Hold.nil fun hO => ?_
    refine AQ.one 10 [] [] (by kernel_rfl) rfl (by kernel_rfl) ?_
    obtain ⟨y21, hy22, H⟩ := obx H
    refine U rfl rfl (cl fb56 (@speculumref01_Int.ok k s20 _ _ _ _ hG S hy22) rfl ?_)
    rintro _ w ⟨rfl, S⟩
    refine andI Hold.nil fun hO => ?_
    refine AQ.pure 11 rfl (by kernel_rfl) (by kernel_rfl) (by kernel_rfl) rfl hO (fun w => x_movV (v := .tuple #[.int .i64 y21.1, .bool y21.2]) rfl) ?_
    refine AQ.pure 12 rfl (by kernel_rfl) (by kernel_rfl) (by kernel_rfl) rfl hO (fun w => x_ext rfl rfl) ?_
    refine AQ.pure 13 rfl (by kernel_rfl) (by kernel_rfl) (by kernel_rfl) rfl hO (fun w => x_ext rfl rfl) ?_
    refine AQ.pure 14 rfl (by kernel_rfl) (by kernel_rfl) (by kernel_rfl) rfl hO (fun w => x_asgV (v := .int .i64 y21.1) rfl) ?_
    refine AQ.pure 15 rfl (by kernel_rfl) (by kernel_rfl) (by kernel_rfl) rfl hO (fun w => x_asgV (v := .bool y21.2) rfl) ?_
    refine AQ.done (by kernel_rfl) ?_
    refine FW.seq ?_
    refine FW.anew [(0, .pointer (some ⟨bx0, 0, none⟩)), (4, .int .i64 y21.1), (5, .bool y21.2)] ⟨rfl, rfl, rfl, trivial⟩ fun σ => ?_
    refine FW.region ?_
    refine U rfl rfl (V (x_movV (v := .pointer (some ⟨bx0, 0, none⟩)) rfl) ?_)
    refine U rfl rfl (V (x_movV (v := .pointer (some ⟨bx0, 0, none⟩)) rfl) ?_)
    refine U rfl rfl (V (x_nk rfl) ?_)
    refine U rfl rfl (V (x_fa tf62_3 rfl) ?_)
    refine U rfl rfl (V (x_ld tsc4 rfl (S.load 0 rfl 3 rfl)) ?_)
    refine U rfl rfl (V (x_movV (v := .bool x0.Bad) rfl) ?_)
    by_cases cc23 : x0.Bad = true
    · rw [if_pos cc23] at H
      refine OK.gf rfl rfl rfl cc23 ?_
      refine OK.gf rfl rfl rfl cc23 ?_
      refine U rfl rfl (V (x_pickTV (v := .bool true) rfl cc23 rfl) ?_)
      refine U rfl rfl (V (x_nk rfl) ?_)
      refine U rfl rfl (V (x_fa tf62_3 rfl) ?_)
      refine U rfl rfl (o_st tone4 S 0 rfl rfl rfl rfl fun w S => ?_)
      refine FW.seq ?_
      refine FW.anew [(4, .int .i64 y21.1)] ⟨rfl, trivial⟩ fun σ => ?_
      refine FW.region ?_
      refine U rfl rfl (V (x_movV (v := .int .i64 y21.1) rfl) ?_)
      refine U rfl rfl (V (x_asgV (v := .int .i64 y21.1) rfl) ?_)
      refine FW.ret ?_
      obtain rfl := Option.some.inj H
      exact ⟨_, ⟨_, rfl, rfl⟩, ⟨x0v2, J8, hI, rfl, x0h2, S⟩⟩
    · rw [if_neg cc23] at H
      refine OK.gt rfl rfl rfl (vaF cc23) (V (x_movV (v := .bool y21.2) rfl) ?_)
      refine OK.gt rfl rfl rfl (vaF cc23) (V (x_not' rfl) ?_)
      refine U rfl rfl (V (x_pickFV (v := .bool (!y21.2)) rfl (vaF cc23) rfl) ?_)
      refine U rfl rfl (V (x_nk rfl) ?_)
      refine U rfl rfl (V (x_fa tf62_3 rfl) ?_)
      refine U rfl rfl (o_st tone4 S 0 rfl rfl rfl rfl fun w S => ?_)
      refine FW.seq ?_
      refine FW.anew [(4, .int .i64 y21.1)] ⟨rfl, trivial⟩ fun σ => ?_
      refine FW.region ?_
      refine U rfl rfl (V (x_movV (v := .int .i64 y21.1) rfl) ?_)
      refine U rfl rfl (V (x_asgV (v := .int .i64 y21.1) rfl) ?_)
      refine FW.ret ?_
      obtain rfl := Option.some.inj H
      exact ⟨_, ⟨_, rfl, rfl⟩, ⟨x0v2, J8, hI, rfl, x0h2, S⟩⟩
end Go.Proofs.YtkkflfmonidepaaDoor
