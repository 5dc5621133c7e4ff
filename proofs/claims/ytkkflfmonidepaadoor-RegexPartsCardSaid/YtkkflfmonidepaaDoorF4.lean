/-
  PRINTED FUNCTIONS 4: regex_Expr_compile, regex_Parse, speculumlaw11_awake, speculumlaw11_RegexNobody, speculumlaw11_RegexTexts, speculumlaw11_hasEnds, speculumlaw11_RegexParts_1.
-/
import Derived.Test.YtkkflfmonidepaaDoorF3
namespace Go.Proofs.YtkkflfmonidepaaDoor
open Sp
set_option maxRecDepth 100000
set_option maxHeartbeats 4000000
mutual
def regex_Expr_compile.l0 : Nat → T_regex_piece → Int → Int → (List T_regex_piece) → (List T_regex_span) → Bool → (List T_regex_step) → Option (Int × (List T_regex_piece) × (List T_regex_span) × Bool × (List T_regex_step))
  | 0, _, _, _, _, _, _, _ => none
  | k + 1, x1, n4, n5, l6, l9, b12, l13 => (if n4 < (x1.parts.length : Int) then ((lat x1.parts n4).bind fun y39 => ((regex_Expr_compile.f k (T_regex_Expr.mk (T_regex_piece.mk n5 l6 l9 b12) l13) y39).bind fun y47 => (regex_Expr_compile.l0 k x1 (i64 (n4 + 1)) y47.top.kind y47.top.parts y47.top.spans y47.top.not y47.prog))) else (some (n5, l6, l9, b12, l13)))
def regex_Expr_compile.f : Nat → T_regex_Expr → T_regex_piece → Option T_regex_Expr
  | 0, _, _ => none
  | k + 1, x0, x1 => (if x1.kind = 0 then ((regex_Expr_compile.l0 k x1 0 x0.top.kind x0.top.parts x0.top.spans x0.top.not x0.prog).bind fun (n24, l25, l28, b31, l32) => (some (T_regex_Expr.mk (T_regex_piece.mk n24 l25 l28 b31) l32))) else (if x1.kind = 1 then ((regex_Expr_choices.f k x0 x1.parts).bind fun y52 => (some y52)) else ((if x1.kind = 2 then (some (x1.kind == 2)) else (some (x1.kind == 4))).bind fun b57 => (if b57 = true then ((regex_Expr_put.f k x0 (T_regex_step.mk 0 x1.spans false x1.not (0, 0))).bind fun y63 => (some y63.2)) else (if x1.kind = 3 then ((regex_Expr_put.f k x0 (T_regex_step.mk 0 [] true false (0, 0))).bind fun y68 => (some y68.2)) else (if x1.kind = 5 then ((regex_Expr_put.f k x0 (T_regex_step.mk 2 [] false false (0, 0))).bind fun y73 => (some y73.2)) else (if x1.kind = 6 then ((regex_Expr_put.f k x0 (T_regex_step.mk 3 [] false false (0, 0))).bind fun y78 => (some y78.2)) else (if x1.kind = 8 then ((lat x1.parts 0).bind fun y83 => ((regex_Expr_compile.f k x0 y83).bind fun y90 => ((regex_Expr_put.f k y90 (T_regex_step.mk 1 [] false false (0, 0))).bind fun y94 => ((lat y94.2.prog y94.1).bind fun y99 => (some (T_regex_Expr.mk y94.2.top (y94.2.prog.set y94.1.toNat (T_regex_step.mk y99.op y99.spans y99.all y99.not ((x0.prog.length : Int), (y94.2.prog.length : Int)))))))))) else ((regex_Expr_put.f k x0 (T_regex_step.mk 1 [] false false (0, 0))).bind fun y109 => ((lat y109.2.prog y109.1).bind fun y114 => ((lat x1.parts 0).bind fun y124 => ((regex_Expr_compile.f k (T_regex_Expr.mk y109.2.top (y109.2.prog.set y109.1.toNat (T_regex_step.mk y114.op y114.spans y114.all y114.not ((y109.2.prog.length : Int), y114.to_.2)))) y124).bind fun y131 => ((if x1.kind = 7 then ((regex_Expr_put.f k y131 (T_regex_step.mk 1 [] false false (0, 0))).bind fun y153 => ((lat y153.2.prog y153.1).bind fun y157 => (some (y153.2.top.kind, y153.2.top.parts, y153.2.top.spans, y153.2.top.not, (y153.2.prog.set y153.1.toNat (T_regex_step.mk y157.op y157.spans y157.all y157.not (y109.1, y109.1))))))) else (some (y131.top.kind, y131.top.parts, y131.top.spans, y131.top.not, y131.prog))).bind fun (n136, l137, l140, b143, l144) => ((lat l144 y109.1).bind fun y168 => (some (T_regex_Expr.mk (T_regex_piece.mk n136 l137 l140 b143) (l144.set y109.1.toNat (T_regex_step.mk y168.op y168.spans y168.all y168.not (y168.to_.1, (l144.length : Int))))))))))))))))))))
def regex_Expr_choices.l0 : Nat → (List T_regex_piece) → (List Int) → Int → Int → (List T_regex_piece) → (List T_regex_span) → Bool → (List T_regex_step) → Option ((List Int) × Int × (List T_regex_piece) × (List T_regex_span) × Bool × (List T_regex_step))
  | 0, _, _, _, _, _, _, _, _ => none
  | k + 1, x1, l3, n6, n7, l8, l11, b14, l15 => (if n6 < (x1.length : Int) then ((lat x1 n6).bind fun y44 => (if n6 = (i64 ((x1.length : Int) - 1)) then ((regex_Expr_compile.f k (T_regex_Expr.mk (T_regex_piece.mk n7 l8 l11 b14) l15) y44).bind fun y53 => (some (l3, y53.top.kind, y53.top.parts, y53.top.spans, y53.top.not, y53.prog))) else ((regex_Expr_put.f k (T_regex_Expr.mk (T_regex_piece.mk n7 l8 l11 b14) l15) (T_regex_step.mk 1 [] false false (0, 0))).bind fun y57 => ((lat y57.2.prog y57.1).bind fun y62 => ((regex_Expr_compile.f k (T_regex_Expr.mk y57.2.top (y57.2.prog.set y57.1.toNat (T_regex_step.mk y62.op y62.spans y62.all y62.not ((y57.2.prog.length : Int), y62.to_.2)))) y44).bind fun y72 => ((regex_Expr_put.f k y72 (T_regex_step.mk 1 [] false false (0, 0))).bind fun y76 => ((app 8 l3 [y76.1]).bind fun l84 => ((lat y76.2.prog y57.1).bind fun y91 => (regex_Expr_choices.l0 k x1 l84 (i64 (n6 + 1)) y76.2.top.kind y76.2.top.parts y76.2.top.spans y76.2.top.not (y76.2.prog.set y57.1.toNat (T_regex_step.mk y91.op y91.spans y91.all y91.not (y91.to_.1, (y76.2.prog.length : Int))))))))))))) else (some (l3, n7, l8, l11, b14, l15)))
def regex_Expr_choices.l1 : Nat → (List Int) → Int → (List T_regex_step) → Option (List T_regex_step)
  | 0, _, _, _ => none
  | k + 1, l26, n102, l103 => (if n102 < (l26.length : Int) then ((lat l26 n102).bind fun y121 => ((lat l103 y121).bind fun y129 => (regex_Expr_choices.l1 k l26 (i64 (n102 + 1)) (l103.set y121.toNat (T_regex_step.mk y129.op y129.spans y129.all y129.not ((l103.length : Int), (l103.length : Int))))))) else (some l103))
def regex_Expr_choices.f : Nat → T_regex_Expr → (List T_regex_piece) → Option T_regex_Expr
  | 0, _, _ => none
  | k + 1, x0, x1 => ((regex_Expr_choices.l0 k x1 [] 0 x0.top.kind x0.top.parts x0.top.spans x0.top.not x0.prog).bind fun (l26, n29, l30, l33, b36, l37) => ((regex_Expr_choices.l1 k l26 0 l37).bind fun l114 => (some (T_regex_Expr.mk (T_regex_piece.mk n29 l30 l33 b36) l114))))
end
abbrev regex_Expr_compile.C (k : Nat) : Prop := ∀ {x0 : T_regex_Expr} {x1 : T_regex_piece} {x0v1 : Value} {x0v2 : Value} {x0v4 : Value} {cx0_4 : List Value} {x1v1 : Value} {x1v2 : Value} {bx0 : Nat} {F : List It} {I : IMem} {w : World} {r : T_regex_Expr}, Glob I → Own I w (.bk bx0 55 [.int .i64 x0.top.kind, x0v1, x0v2, .bool x0.top.not, x0v4] :: .av x0v4 59 6 cx0_4 :: F) → SlR R_regex_piece I x0v1 x0.top.parts → SlR R_regex_span I x0v2 x0.top.spans → Flat R_regex_step I cx0_4 x0.prog → SlR R_regex_piece I x1v1 x1.parts → SlR R_regex_span I x1v2 x1.spans → regex_Expr_compile.f k x0 x1 = some r →
    Calls Tryd.prog 19 #[.pointer (some ⟨bx0, 0, none⟩), .agg #[.int .i64 x1.kind, x1v1, x1v2, .bool x1.not]] w fun e w' => ∃ v, e = .returned v ∧ ∃ (y_0v1 : Value) (y_0v2 : Value) (y_0v4 : Value) (cy_0_4 : List Value) (J : IMem), I.le J ∧ v = .tuple #[] ∧ SlR R_regex_piece J y_0v1 r.top.parts ∧ SlR R_regex_span J y_0v2 r.top.spans ∧ Flat R_regex_step J cy_0_4 r.prog ∧ Own J w' (.bk bx0 55 [.int .i64 r.top.kind, y_0v1, y_0v2, .bool r.top.not, y_0v4] :: .av y_0v4 59 6 cy_0_4 :: F)
abbrev regex_Expr_choices.C (k : Nat) : Prop := ∀ {x0 : T_regex_Expr} {x1 : (List T_regex_piece)} {x0v1 : Value} {x0v2 : Value} {x0v4 : Value} {cx0_4 : List Value} {vx1 : Value} {bx0 : Nat} {F : List It} {I : IMem} {w : World} {r : T_regex_Expr}, Glob I → Own I w (.bk bx0 55 [.int .i64 x0.top.kind, x0v1, x0v2, .bool x0.top.not, x0v4] :: .av x0v4 59 6 cx0_4 :: F) → SlR R_regex_piece I x0v1 x0.top.parts → SlR R_regex_span I x0v2 x0.top.spans → Flat R_regex_step I cx0_4 x0.prog → SlR R_regex_piece I vx1 x1 → regex_Expr_choices.f k x0 x1 = some r →
    Calls Tryd.prog 30 #[.pointer (some ⟨bx0, 0, none⟩), vx1] w fun e w' => ∃ v, e = .returned v ∧ ∃ (y_0v1 : Value) (y_0v2 : Value) (y_0v4 : Value) (cy_0_4 : List Value) (J : IMem), I.le J ∧ v = .tuple #[] ∧ SlR R_regex_piece J y_0v1 r.top.parts ∧ SlR R_regex_span J y_0v2 r.top.spans ∧ Flat R_regex_step J cy_0_4 r.prog ∧ Own J w' (.bk bx0 55 [.int .i64 r.top.kind, y_0v1, y_0v2, .bool r.top.not, y_0v4] :: .av y_0v4 59 6 cy_0_4 :: F)
theorem regex_Expr_compile.step (k : Nat) (ih_regex_Expr_compile : ∀ m, m ≤ k → regex_Expr_compile.C m) (ih_regex_Expr_choices : ∀ m, m ≤ k → regex_Expr_choices.C m) : regex_Expr_compile.C (k + 1) := by
  intro x0 x1 x0v1 x0v2 x0v4 cx0_4 x1v1 x1v2 bx0 F I w r hG S x0h1 x0h2 x0h4 x1h1 x1h2 H
  have hI := IMem.le.refl I
  rw [regex_Expr_compile.f] at H
  refine Calls.ofFW (args := [.pointer (some ⟨bx0, 0, none⟩), .agg #[.int .i64 x1.kind, x1v1, x1v2, .bool x1.not]]) Tryd.func19 rfl rfl ?_
  refine FW.seq ?_
  refine FW.region ?_
  refine U rfl rfl (o_boxA rfl S fun b1 w S => ?_)
  refine FW.seq ?_
  refine FW.region ?_
  refine U rfl rfl (V (x_fa tf48_0 rfl) ?_)
  refine U rfl rfl (V (x_ld tsc3 rfl (S.load 0 rfl 0 rfl)) ?_)
  refine FW.block ?_
  refine FW.seq ?_
  refine FW.region ?_
  refine U rfl rfl (V (x_bin rfl rfl rfl) ?_)
  refine U rfl rfl (V (x_asgV (v := .bool (x1.kind == 0)) rfl) ?_)
  by_cases cc2 : x1.kind = 0
  · rw [if_pos cc2] at H
    refine FW.condT rfl (eqT cc2) ?_
    refine FW.seq ?_
    refine FW.region ?_
    refine U rfl rfl (V (x_fa tf48_1 rfl) ?_)
    refine U rfl rfl (V (x_ld tsc45 rfl (S.load 0 rfl 1 rfl)) ?_)
    refine U rfl rfl (V (x_lenD (r := R_regex_piece) tsl45 x1h1) ?_)
    refine U rfl rfl (V (x_movV (v := .int .i64 0) rfl) ?_)
    refine FW.block ?_
    obtain ⟨o20, hl22, HO21⟩ := obx H
    refine FW.cutX 1 (fun σ w => ∃ (n24 : Int) (l25 : (List T_regex_piece)) (l28 : (List T_regex_span)) (b31 : Bool) (l32 : (List T_regex_step)) (v26 : Value) (v29 : Value) (v33 : Value) (a34 : List Value) (J23 : IMem), (n24, l25, l28, b31, l32) = o20 ∧ Has σ [] ∧ I.le J23 ∧ Own J23 w (.bk b1 48 [.int .i64 x1.kind, x1v1, x1v2, .bool x1.not] :: .bk bx0 55 [.int .i64 n24, v26, v29, .bool b31, v33] :: .av v33 59 6 a34 :: F) ∧ SlR R_regex_piece J23 v26 l25 ∧ SlR R_regex_span J23 v29 l28 ∧ Flat R_regex_step J23 a34 l32) ?_ ?_
    ·
      refine FW.loop k (FL.ind (fun q σ w => ∃ (n4 : Int) (n5 : Int) (l6 : (List T_regex_piece)) (l9 : (List T_regex_span)) (b12 : Bool) (l13 : (List T_regex_step)) (v7 : Value) (v10 : Value) (v14 : Value) (a15 : List Value) (J3 : IMem), regex_Expr_compile.l0 q x1 n4 n5 l6 l9 b12 l13 = some o20 ∧ q ≤ k ∧ Has σ [(0, .pointer (some ⟨bx0, 0, none⟩)), (66, x1v1), (67, .int .i64 (x1.parts.length : Int)), (68, .int .i64 n4)] ∧ I.le J3 ∧ Own J3 w (.bk b1 48 [.int .i64 x1.kind, x1v1, x1v2, .bool x1.not] :: .bk bx0 55 [.int .i64 n5, v7, v10, .bool b12, v14] :: .av v14 59 6 a15 :: F) ∧ SlR R_regex_piece J3 v7 l6 ∧ SlR R_regex_span J3 v10 l9 ∧ Flat R_regex_step J3 a15 l13) ?_ ?_ k k _ _ (Nat.le_refl _) ⟨0, x0.top.kind, x0.top.parts, x0.top.spans, x0.top.not, x0.prog, x0v1, x0v2, x0v4, cx0_4, I, hl22, Nat.le_refl _, ⟨rfl, rfl, rfl, rfl, trivial⟩, (IMem.le.refl _), S, x0h1, x0h2, x0h4⟩)
      · rintro σ w ⟨n4, n5, l6, l9, b12, l13, v7, v10, v14, a15, J3, H, _⟩; cases H
      · rintro q18 σ w ⟨n4, n5, l6, l9, b12, l13, v7, v10, v14, a15, J3, H, hq37, hσ, hL19, S, h8, h11, h16⟩
        have x1h1 := x1h1.mono hL19
        have x1h2 := x1h2.mono hL19
        have hI := hI.trans hL19
        have hG := hG.mono hL19
        rw [hσ.eq]
        rw [regex_Expr_compile.l0] at H
        refine FW.seq ?_
        refine FW.region ?_
        refine U rfl rfl (V (x_bin rfl rfl rfl) ?_)
        refine FW.seq ?_
        by_cases cc38 : n4 < (x1.parts.length : Int)
        · rw [if_pos cc38] at H
          refine FW.condT rfl (deT cc38) ?_
          refine FW.skip ?_
          refine FW.seq ?_
          refine FW.block ?_
          refine FW.seq ?_
          refine FW.region ?_
          obtain ⟨y39, h40, H⟩ := obx H
          refine U rfl rfl (o_ia (r := R_regex_piece) tsl45 rfl rfl x1h1 rfl h40 fun b41 o42 cs43 hr44 hc45 => ?_)
          obtain ⟨y39v1, y39v2, rfl, y39h1, y39h2⟩ := R_regex_piece.un hr44
          refine U rfl rfl (V (x_ldA tag48 rfl (S.loadI hc45) rfl) ?_)
          refine U rfl rfl (o_all tz48 S fun b46 w S => ?_)
          refine U rfl rfl (o_stA tag48 S 0 rfl rfl rfl rfl (c1 rfl (c1 y39h1.one (c1 y39h2.one (c1 rfl c0)))) rfl fun w S => ?_)
          refine FW.region ?_
          refine U rfl rfl (V (x_movV (v := .pointer (some ⟨bx0, 0, none⟩)) rfl) ?_)
          refine U rfl rfl (V (x_ldA tag48 rfl (S.loadW 0 rfl) rfl) ?_)
          obtain ⟨y47, hy48, H⟩ := obx H
          refine U rfl rfl (cl fb19 (@ih_regex_Expr_compile q18 (by omega) (T_regex_Expr.mk (T_regex_piece.mk n5 l6 l9 b12) l13) y39 _ _ _ _ _ _ _ _ _ _ _ hG (S.sel 4 [2, 3, 0, 1] rfl) h8 h11 h16 y39h1 y39h2 hy48) rfl ?_)
          rintro _ w ⟨y47_0v1, y47_0v2, y47_0v4, cy47_0_4, J49, hJ50, rfl, y47_0h1, y47_0h2, y47_0h4, S⟩
          have x1h1 := x1h1.mono hJ50
          have y39h1 := y39h1.mono hJ50
          have y39h2 := y39h2.mono hJ50
          have x1h2 := x1h2.mono hJ50
          have hI := hI.trans hJ50
          have hL19 := hL19.trans hJ50
          have hG := hG.mono hJ50
          refine FW.anew [(0, .pointer (some ⟨bx0, 0, none⟩)), (66, x1v1), (67, .int .i64 (x1.parts.length : Int)), (68, .int .i64 n4)] ⟨rfl, rfl, rfl, rfl, trivial⟩ fun σ => ?_
          refine FW.region ?_
          refine U rfl rfl (V (x_bin rfl rfl rfl) ?_)
          refine U rfl rfl (V (x_movV (v := .int .i64 (i64 (n4 + 1))) rfl) ?_)
          exact ⟨q18, Nat.le_refl _, (i64 (n4 + 1)), y47.top.kind, y47.top.parts, y47.top.spans, y47.top.not, y47.prog, y47_0v1, y47_0v2, y47_0v4, cy47_0_4, J49, H, (Nat.le_of_succ_le hq37), ⟨rfl, rfl, rfl, rfl, trivial⟩, hL19, (S.sel 4 [3, 0, 1] rfl), y47_0h1, y47_0h2, y47_0h4⟩
        · rw [if_neg cc38] at H
          refine FW.condF rfl (deF cc38) ?_
          refine FW.exit ?_
          exact ⟨n5, l6, l9, b12, l13, v7, v10, v14, a15, J3, (Option.some.inj H), trivial, hL19, S, h8, h11, h16⟩
    · rintro σ w ⟨n24, l25, l28, b31, l32, v26, v29, v33, a34, J23, ho, hσ, hL19, S, h27, h30, h35⟩
      subst ho
      have H := HO21
      try dsimp only at H
      have x1h1 := x1h1.mono hL19
      have x1h2 := x1h2.mono hL19
      have hI := hI.trans hL19
      have hG := hG.mono hL19
      rw [hσ.eq]
      obtain rfl := Option.some.inj H
      exact ⟨_, rfl, ⟨v26, v29, v33, a34, J23, hI, rfl, h27, h30, h35, (S.sel 3 [1, 2] rfl)⟩⟩
  · rw [if_neg cc2] at H
    refine FW.condF rfl (eqF cc2) ?_
    refine FW.seq ?_
    refine FW.region ?_
    refine U rfl rfl (V (x_bin rfl rfl rfl) ?_)
    refine U rfl rfl (V (x_asgV (v := .bool (x1.kind == 1)) rfl) ?_)
    by_cases cc51 : x1.kind = 1
    · rw [if_pos cc51] at H
      refine FW.condT rfl (eqT cc51) ?_
      refine FW.anew [(0, .pointer (some ⟨bx0, 0, none⟩)), (3, .pointer (some ⟨b1, 0, none⟩))] ⟨rfl, rfl, trivial⟩ fun σ => ?_
      refine FW.region ?_
      refine U rfl rfl (V (x_movV (v := .pointer (some ⟨bx0, 0, none⟩)) rfl) ?_)
      refine U rfl rfl (V (x_fa tf48_1 rfl) ?_)
      refine U rfl rfl (V (x_ld tsc45 rfl (S.load 0 rfl 1 rfl)) ?_)
      obtain ⟨y52, hy53, H⟩ := obx H
      refine U rfl rfl (cl fb30 (@ih_regex_Expr_choices k (by omega) x0 x1.parts _ _ _ _ _ _ _ _ _ _ hG (S.sel 3 [1, 2, 0] rfl) x0h1 x0h2 x0h4 x1h1 hy53) rfl ?_)
      rintro _ w ⟨y52_0v1, y52_0v2, y52_0v4, cy52_0_4, J54, hJ55, rfl, y52_0h1, y52_0h2, y52_0h4, S⟩
      have x1h1 := x1h1.mono hJ55
      have x1h2 := x1h2.mono hJ55
      have hI := hI.trans hJ55
      have hG := hG.mono hJ55
      obtain rfl := Option.some.inj H
      exact ⟨_, rfl, ⟨y52_0v1, y52_0v2, y52_0v4, cy52_0_4, J54, hI, rfl, y52_0h1, y52_0h2, y52_0h4, (S.sel 3 [0, 1] rfl)⟩⟩
    · rw [if_neg cc51] at H
      refine FW.condF rfl (eqF cc51) ?_
      refine FW.seq ?_
      refine FW.seq ?_
      refine FW.anew [(0, .pointer (some ⟨bx0, 0, none⟩)), (3, .pointer (some ⟨b1, 0, none⟩)), (11, .int .i64 x1.kind)] ⟨rfl, rfl, rfl, trivial⟩ fun σ => ?_
      refine FW.region ?_
      refine U rfl rfl (V (x_bin rfl rfl rfl) ?_)
      refine U rfl rfl (V (x_asgV (v := .bool (x1.kind == 2)) rfl) ?_)
      obtain ⟨o58, H, HO59⟩ := obx H
      have hL60 := IMem.le.refl I
      refine FW.cutN (fun σ w => ∃ (b57 : Bool) (J56 : IMem), b57 = o58 ∧ Has σ [(0, .pointer (some ⟨bx0, 0, none⟩)), (3, .pointer (some ⟨b1, 0, none⟩)), (11, .int .i64 x1.kind), (82, .bool b57)] ∧ I.le J56 ∧ Own J56 w (.bk b1 48 [.int .i64 x1.kind, x1v1, x1v2, .bool x1.not] :: .bk bx0 55 [.int .i64 x0.top.kind, x0v1, x0v2, .bool x0.top.not, x0v4] :: .av x0v4 59 6 cx0_4 :: F)) ?_ ?_
      ·
        by_cases cc61 : x1.kind = 2
        · rw [if_pos cc61] at H
          refine FW.condT rfl (eqT cc61) ?_
          refine FW.skip ?_
          exact ⟨(x1.kind == 2), I, (Option.some.inj H), ⟨rfl, rfl, rfl, rfl, trivial⟩, hL60, S⟩
        · rw [if_neg cc61] at H
          refine FW.condF rfl (eqF cc61) ?_
          refine FW.region ?_
          refine U rfl rfl (V (x_bin rfl rfl rfl) ?_)
          refine U rfl rfl (V (x_asgV (v := .bool (x1.kind == 4)) rfl) ?_)
          exact ⟨(x1.kind == 4), I, (Option.some.inj H), ⟨rfl, rfl, rfl, rfl, trivial⟩, hL60, S⟩
      · rintro σ w ⟨b57, J56, ho, hσ, hL60, S⟩
        subst ho
        have H := HO59
        have x1h1 := x1h1.mono hL60
        have x1h2 := x1h2.mono hL60
        have x0h1 := x0h1.mono hL60
        have x0h2 := x0h2.mono hL60
        have x0h4 := x0h4.mono hL60
        have hI := hI.trans hL60
        have hG := hG.mono hL60
        rw [hσ.eq]
        by_cases cc62 : b57 = true
        · rw [if_pos cc62] at H
          refine FW.condT rfl cc62 ?_
          refine FW.region ?_
          refine U rfl rfl (V (x_movV (v := .pointer (some ⟨bx0, 0, none⟩)) rfl) ?_)
          refine U rfl rfl (V (x_fa tf48_2 rfl) ?_)
          refine U rfl rfl (V (x_ld tsc46 rfl (S.load 0 rfl 2 rfl)) ?_)
          refine U rfl rfl (V (x_fa tf48_3 rfl) ?_)
          refine U rfl rfl (V (x_ld tsc4 rfl (S.load 0 rfl 3 rfl)) ?_)
          refine U rfl rfl (V (x_bld tz59 tpl59 rfl (.one rfl (.one x1h2.one (.one rfl PC.nil))) rfl) ?_)
          obtain ⟨y63, hy64, H⟩ := obx H
          refine U rfl rfl (cl fb31 (@regex_Expr_put.ok k x0 (T_regex_step.mk 0 x1.spans false x1.not (0, 0)) _ _ _ _ _ _ _ _ _ _ hG (S.sel 3 [1, 2, 0] rfl) x0h1 x0h2 x0h4 x1h2 hy64) rfl ?_)
          rintro _ w ⟨y63_1v1, y63_1v2, y63_1v4, cy63_1_4, J65, hJ66, rfl, y63_1h1, y63_1h2, y63_1h4, S⟩
          have x1h2 := x1h2.mono hJ66
          have x1h1 := x1h1.mono hJ66
          have hI := hI.trans hJ66
          have hG := hG.mono hJ66
          obtain rfl := Option.some.inj H
          exact ⟨_, rfl, ⟨y63_1v1, y63_1v2, y63_1v4, cy63_1_4, J65, hI, rfl, y63_1h1, y63_1h2, y63_1h4, (S.sel 3 [0, 1] rfl)⟩⟩
        · rw [if_neg cc62] at H
          refine FW.condF rfl (vaF cc62) ?_
          refine FW.seq ?_
          refine FW.region ?_
          refine U rfl rfl (V (x_bin rfl rfl rfl) ?_)
          refine U rfl rfl (V (x_asgV (v := .bool (x1.kind == 3)) rfl) ?_)
          by_cases cc67 : x1.kind = 3
          · rw [if_pos cc67] at H
            refine FW.condT rfl (eqT cc67) ?_
            refine FW.region ?_
            refine U rfl rfl (V (x_movV (v := .pointer (some ⟨bx0, 0, none⟩)) rfl) ?_)
            refine U rfl rfl (V (x_bld tz59 tpl59 rfl (.one rfl (.one rfl PC.nil)) rfl) ?_)
            obtain ⟨y68, hy69, H⟩ := obx H
            refine U rfl rfl (cl fb31 (@regex_Expr_put.ok k x0 (T_regex_step.mk 0 [] true false (0, 0)) _ _ _ _ _ _ _ _ _ _ hG (S.sel 3 [1, 2, 0] rfl) x0h1 x0h2 x0h4 (SlR.nil _ _) hy69) rfl ?_)
            rintro _ w ⟨y68_1v1, y68_1v2, y68_1v4, cy68_1_4, J70, hJ71, rfl, y68_1h1, y68_1h2, y68_1h4, S⟩
            have x1h1 := x1h1.mono hJ71
            have x1h2 := x1h2.mono hJ71
            have hI := hI.trans hJ71
            have hG := hG.mono hJ71
            obtain rfl := Option.some.inj H
            exact ⟨_, rfl, ⟨y68_1v1, y68_1v2, y68_1v4, cy68_1_4, J70, hI, rfl, y68_1h1, y68_1h2, y68_1h4, (S.sel 3 [0, 1] rfl)⟩⟩
          · rw [if_neg cc67] at H
            refine FW.condF rfl (eqF cc67) ?_
            refine FW.seq ?_
            refine FW.region ?_
            refine U rfl rfl (V (x_bin rfl rfl rfl) ?_)
            refine U rfl rfl (V (x_asgV (v := .bool (x1.kind == 5)) rfl) ?_)
            by_cases cc72 : x1.kind = 5
            · rw [if_pos cc72] at H
              refine FW.condT rfl (eqT cc72) ?_
              refine FW.region ?_
              refine U rfl rfl (V (x_movV (v := .pointer (some ⟨bx0, 0, none⟩)) rfl) ?_)
              refine U rfl rfl (V (x_bld tz59 tpl59 rfl (.one rfl PC.nil) rfl) ?_)
              obtain ⟨y73, hy74, H⟩ := obx H
              refine U rfl rfl (cl fb31 (@regex_Expr_put.ok k x0 (T_regex_step.mk 2 [] false false (0, 0)) _ _ _ _ _ _ _ _ _ _ hG (S.sel 3 [1, 2, 0] rfl) x0h1 x0h2 x0h4 (SlR.nil _ _) hy74) rfl ?_)
              rintro _ w ⟨y73_1v1, y73_1v2, y73_1v4, cy73_1_4, J75, hJ76, rfl, y73_1h1, y73_1h2, y73_1h4, S⟩
              have x1h1 := x1h1.mono hJ76
              have x1h2 := x1h2.mono hJ76
              have hI := hI.trans hJ76
              have hG := hG.mono hJ76
              obtain rfl := Option.some.inj H
              exact ⟨_, rfl, ⟨y73_1v1, y73_1v2, y73_1v4, cy73_1_4, J75, hI, rfl, y73_1h1, y73_1h2, y73_1h4, (S.sel 3 [0, 1] rfl)⟩⟩
            · rw [if_neg cc72] at H
              refine FW.condF rfl (eqF cc72) ?_
              refine FW.seq ?_
              refine FW.region ?_
              refine U rfl rfl (V (x_bin rfl rfl rfl) ?_)
              refine U rfl rfl (V (x_asgV (v := .bool (x1.kind == 6)) rfl) ?_)
              by_cases cc77 : x1.kind = 6
              · rw [if_pos cc77] at H
                refine FW.condT rfl (eqT cc77) ?_
                refine FW.region ?_
                refine U rfl rfl (V (x_movV (v := .pointer (some ⟨bx0, 0, none⟩)) rfl) ?_)
                refine U rfl rfl (V (x_bld tz59 tpl59 rfl (.one rfl PC.nil) rfl) ?_)
                obtain ⟨y78, hy79, H⟩ := obx H
                refine U rfl rfl (cl fb31 (@regex_Expr_put.ok k x0 (T_regex_step.mk 3 [] false false (0, 0)) _ _ _ _ _ _ _ _ _ _ hG (S.sel 3 [1, 2, 0] rfl) x0h1 x0h2 x0h4 (SlR.nil _ _) hy79) rfl ?_)
                rintro _ w ⟨y78_1v1, y78_1v2, y78_1v4, cy78_1_4, J80, hJ81, rfl, y78_1h1, y78_1h2, y78_1h4, S⟩
                have x1h1 := x1h1.mono hJ81
                have x1h2 := x1h2.mono hJ81
                have hI := hI.trans hJ81
                have hG := hG.mono hJ81
                obtain rfl := Option.some.inj H
                exact ⟨_, rfl, ⟨y78_1v1, y78_1v2, y78_1v4, cy78_1_4, J80, hI, rfl, y78_1h1, y78_1h2, y78_1h4, (S.sel 3 [0, 1] rfl)⟩⟩
              · rw [if_neg cc77] at H
                refine FW.condF rfl (eqF cc77) ?_
                refine FW.seq ?_
                refine FW.region ?_
                refine U rfl rfl (V (x_bin rfl rfl rfl) ?_)
                refine U rfl rfl (V (x_asgV (v := .bool (x1.kind == 8)) rfl) ?_)
                by_cases cc82 : x1.kind = 8
                · rw [if_pos cc82] at H
                  refine FW.condT rfl (eqT cc82) ?_
                  refine FW.seq ?_
                  refine FW.anew [(0, .pointer (some ⟨bx0, 0, none⟩)), (3, .pointer (some ⟨b1, 0, none⟩))] ⟨rfl, rfl, trivial⟩ fun σ => ?_
                  refine FW.region ?_
                  refine U rfl rfl (V (x_movV (v := .pointer (some ⟨bx0, 0, none⟩)) rfl) ?_)
                  refine U rfl rfl (V (x_nk rfl) ?_)
                  refine U rfl rfl (V (x_fa tf55_1 rfl) ?_)
                  refine U rfl rfl (V (x_ld tsc53 rfl (S.load 1 rfl 4 rfl)) ?_)
                  refine U rfl rfl (V (x_lenV (r := R_regex_step) tsl53 rfl rfl S 2 rfl x0h4) ?_)
                  refine U rfl rfl (V (x_asgV (v := .int .i64 (x0.prog.length : Int)) rfl) ?_)
                  refine FW.seq ?_
                  refine FW.region ?_
                  refine U rfl rfl (V (x_movV (v := .pointer (some ⟨bx0, 0, none⟩)) rfl) ?_)
                  refine U rfl rfl (V (x_fa tf48_1 rfl) ?_)
                  refine U rfl rfl (V (x_ld tsc45 rfl (S.load 0 rfl 1 rfl)) ?_)
                  obtain ⟨y83, h84, H⟩ := obx H
                  refine U rfl rfl (o_ia (r := R_regex_piece) tsl45 rfl rfl x1h1 rfl h84 fun b85 o86 cs87 hr88 hc89 => ?_)
                  obtain ⟨y83v1, y83v2, rfl, y83h1, y83h2⟩ := R_regex_piece.un hr88
                  refine U rfl rfl (V (x_ldA tag48 rfl (S.loadI hc89) rfl) ?_)
                  obtain ⟨y90, hy91, H⟩ := obx H
                  refine U rfl rfl (cl fb19 (@ih_regex_Expr_compile k (by omega) x0 y83 _ _ _ _ _ _ _ _ _ _ _ hG (S.sel 3 [1, 2, 0] rfl) x0h1 x0h2 x0h4 y83h1 y83h2 hy91) rfl ?_)
                  rintro _ w ⟨y90_0v1, y90_0v2, y90_0v4, cy90_0_4, J92, hJ93, rfl, y90_0h1, y90_0h2, y90_0h4, S⟩
                  have x1h1 := x1h1.mono hJ93
                  have hc89 := hc89.mono hJ93
                  have y83h1 := y83h1.mono hJ93
                  have y83h2 := y83h2.mono hJ93
                  have x1h2 := x1h2.mono hJ93
                  have hI := hI.trans hJ93
                  have hG := hG.mono hJ93
                  refine FW.seq ?_
                  refine FW.anew [(0, .pointer (some ⟨bx0, 0, none⟩)), (6, .int .i64 (x0.prog.length : Int))] ⟨rfl, rfl, trivial⟩ fun σ => ?_
                  refine FW.region ?_
                  refine U rfl rfl (V (x_movV (v := .pointer (some ⟨bx0, 0, none⟩)) rfl) ?_)
                  refine U rfl rfl (V (x_bld tz59 tpl59 rfl (.one rfl PC.nil) rfl) ?_)
                  obtain ⟨y94, hy95, H⟩ := obx H
                  refine U rfl rfl (cl fb31 (@regex_Expr_put.ok k y90 (T_regex_step.mk 1 [] false false (0, 0)) _ _ _ _ _ _ _ _ _ _ hG S y90_0h1 y90_0h2 y90_0h4 (SlR.nil _ _) hy95) rfl ?_)
                  rintro _ w ⟨y94_1v1, y94_1v2, y94_1v4, cy94_1_4, J96, hJ97, rfl, y94_1h1, y94_1h2, y94_1h4, S⟩
                  have x1h1 := x1h1.mono hJ97
                  have x1h2 := x1h2.mono hJ97
                  have hI := hI.trans hJ97
                  have hG := hG.mono hJ97
                  refine U rfl rfl (V (x_asgV (v := .int .i64 y94.1) rfl) ?_)
                  have S := S.drew
                  refine FW.regionD mixed ?_
                  have hO := Hold.nil (w := { w with drawn := w.drawn + 1 })
                  refine AQ.pure 0 rfl (by kernel_rfl) (by kernel_rfl) (by kernel_rfl) rfl hO (fun w => x_movV (v := .pointer (some ⟨bx0, 0, none⟩)) rfl) ?_
                  refine AQ.pure 1 rfl (by kernel_rfl) (by kernel_rfl) (by kernel_rfl) rfl hO (fun w => x_nk rfl) ?_
                  refine AQ.pure 2 rfl (by kernel_rfl) (by kernel_rfl) (by kernel_rfl) rfl hO (fun w => x_fa tf55_1 rfl) ?_
                  have hR98 := IMem.le.refl J96
                  refine AQ.take (S := Stab J96 [.bk bx0 55 [.int .i64 y94.2.top.kind, y94_1v1, y94_1v2, .bool y94.2.top.not, y94_1v4]]) 3 rfl (by kernel_rfl) (by kernel_rfl) (by kernel_rfl) rfl hO (Stab.of S 0 rfl hR98) (fun w hS => x_ld tsc53 rfl (hS.load 0 rfl 4 rfl)) fun hO => ?_
                  refine AQ.pure 4 rfl (by kernel_rfl) (by kernel_rfl) (by kernel_rfl) rfl hO (fun w => x_movV (v := .int .i64 y94.1) rfl) ?_
                  refine AQ.pure 5 rfl (by kernel_rfl) (by kernel_rfl) (by kernel_rfl) rfl hO (fun w => x_movV (v := .int .i64 (x0.prog.length : Int)) rfl) ?_
                  refine AQ.pure 6 rfl (by kernel_rfl) (by kernel_rfl) (by kernel_rfl) rfl hO (fun w => x_movV (v := .pointer (some ⟨bx0, 0, none⟩)) rfl) ?_
                  refine AQ.pure 7 rfl (by kernel_rfl) (by kernel_rfl) (by kernel_rfl) rfl hO (fun w => x_nk rfl) ?_
                  refine AQ.pure 8 rfl (by kernel_rfl) (by kernel_rfl) (by kernel_rfl) rfl hO (fun w => x_fa tf55_1 rfl) ?_
                  refine AQ.take (S := Stab J96 [.bk bx0 55 [.int .i64 y94.2.top.kind, y94_1v1, y94_1v2, .bool y94.2.top.not, y94_1v4]]) 9 rfl (by kernel_rfl) (by kernel_rfl) (by kernel_rfl) rfl hO (Stab.of S 0 rfl hR98) (fun w hS => x_ld tsc53 rfl (hS.load 0 rfl 4 rfl)) fun hO => ?_
                  refine AQ.pure 10 rfl (by kernel_rfl) (by kernel_rfl) (by kernel_rfl) rfl hO (fun w => x_lenVD (r := R_regex_step) tsl53 rfl rfl S 1 rfl y94_1h4 w) ?_
                  refine AQ.pure 11 rfl (by kernel_rfl) (by kernel_rfl) (by kernel_rfl) rfl hO (fun w => x_bldA tar57 tz57 rfl (.one rfl (.one rfl PC.nil)) rfl) ?_
                  obtain ⟨y99, h100, H⟩ := obx H
                  refine AQ.pureE 12 rfl (by kernel_rfl) (by kernel_rfl) (by kernel_rfl) rfl hO (e_iaVD (r := R_regex_step) tsl53 rfl rfl S 1 rfl y94_1h4 rfl h100) ?_
                  rintro _ ⟨b101, cs102, cc103, rfl, hv104, hr105, hc106⟩
                  obtain ⟨y99v1, rfl, y99h1⟩ := hr105
                  refine AQ.pure 13 rfl (by kernel_rfl) (by kernel_rfl) (by kernel_rfl) rfl hO (fun w => x_fa tf59_4 rfl) ?_
                  refine AQ.one 14 [9, 3] [false, false] (by kernel_rfl) rfl (by kernel_rfl) ?_
                  refine U rfl rfl (o_stVA (r := R_regex_step) (f := 4) (y' := (T_regex_step.mk y99.op y99.spans y99.all y99.not ((x0.prog.length : Int), (y94.2.prog.length : Int)))) tag57 rfl S 1 rfl hv104 y94_1h4 h100 ⟨y99v1, rfl, y99h1⟩ hc106 rfl rfl rfl rfl rfl (c1 rfl (c1 rfl c0)) ⟨y99v1, rfl, y99h1⟩ fun w a107 S h108 => ?_)
                  refine andI Hold.nil fun hO => ?_
                  refine AQ.done (by kernel_rfl) ?_
                  obtain rfl := Option.some.inj H
                  exact ⟨_, rfl, ⟨y94_1v1, y94_1v2, y94_1v4, a107, J96, hI, rfl, y94_1h1, y94_1h2, h108, (S.sel 3 [0, 1] rfl)⟩⟩
                · rw [if_neg cc82] at H
                  refine FW.condF rfl (eqF cc82) ?_
                  refine FW.seq ?_
                  refine FW.anew [(0, .pointer (some ⟨bx0, 0, none⟩)), (3, .pointer (some ⟨b1, 0, none⟩))] ⟨rfl, rfl, trivial⟩ fun σ => ?_
                  refine FW.region ?_
                  refine U rfl rfl (V (x_movV (v := .pointer (some ⟨bx0, 0, none⟩)) rfl) ?_)
                  refine U rfl rfl (V (x_bld tz59 tpl59 rfl (.one rfl PC.nil) rfl) ?_)
                  obtain ⟨y109, hy110, H⟩ := obx H
                  refine U rfl rfl (cl fb31 (@regex_Expr_put.ok k x0 (T_regex_step.mk 1 [] false false (0, 0)) _ _ _ _ _ _ _ _ _ _ hG (S.sel 3 [1, 2, 0] rfl) x0h1 x0h2 x0h4 (SlR.nil _ _) hy110) rfl ?_)
                  rintro _ w ⟨y109_1v1, y109_1v2, y109_1v4, cy109_1_4, J111, hJ112, rfl, y109_1h1, y109_1h2, y109_1h4, S⟩
                  have x1h1 := x1h1.mono hJ112
                  have x1h2 := x1h2.mono hJ112
                  have hI := hI.trans hJ112
                  have hG := hG.mono hJ112
                  refine U rfl rfl (V (x_asgV (v := .int .i64 y109.1) rfl) ?_)
                  refine FW.seq ?_
                  have S := S.drew
                  refine FW.regionD mixed ?_
                  have hO := Hold.nil (w := { w with drawn := w.drawn + 1 })
                  refine AQ.pure 0 rfl (by kernel_rfl) (by kernel_rfl) (by kernel_rfl) rfl hO (fun w => x_movV (v := .pointer (some ⟨bx0, 0, none⟩)) rfl) ?_
                  refine AQ.pure 1 rfl (by kernel_rfl) (by kernel_rfl) (by kernel_rfl) rfl hO (fun w => x_nk rfl) ?_
                  refine AQ.pure 2 rfl (by kernel_rfl) (by kernel_rfl) (by kernel_rfl) rfl hO (fun w => x_fa tf55_1 rfl) ?_
                  have hR113 := IMem.le.refl J111
                  refine AQ.take (S := Stab J111 [.bk bx0 55 [.int .i64 y109.2.top.kind, y109_1v1, y109_1v2, .bool y109.2.top.not, y109_1v4]]) 3 rfl (by kernel_rfl) (by kernel_rfl) (by kernel_rfl) rfl hO (Stab.of S 0 rfl hR113) (fun w hS => x_ld tsc53 rfl (hS.load 0 rfl 4 rfl)) fun hO => ?_
                  refine AQ.pure 4 rfl (by kernel_rfl) (by kernel_rfl) (by kernel_rfl) rfl hO (fun w => x_movV (v := .int .i64 y109.1) rfl) ?_
                  refine AQ.pure 5 rfl (by kernel_rfl) (by kernel_rfl) (by kernel_rfl) rfl hO (fun w => x_movV (v := .pointer (some ⟨bx0, 0, none⟩)) rfl) ?_
                  refine AQ.pure 6 rfl (by kernel_rfl) (by kernel_rfl) (by kernel_rfl) rfl hO (fun w => x_nk rfl) ?_
                  refine AQ.pure 7 rfl (by kernel_rfl) (by kernel_rfl) (by kernel_rfl) rfl hO (fun w => x_fa tf55_1 rfl) ?_
                  refine AQ.take (S := Stab J111 [.bk bx0 55 [.int .i64 y109.2.top.kind, y109_1v1, y109_1v2, .bool y109.2.top.not, y109_1v4]]) 8 rfl (by kernel_rfl) (by kernel_rfl) (by kernel_rfl) rfl hO (Stab.of S 0 rfl hR113) (fun w hS => x_ld tsc53 rfl (hS.load 0 rfl 4 rfl)) fun hO => ?_
                  refine AQ.pure 9 rfl (by kernel_rfl) (by kernel_rfl) (by kernel_rfl) rfl hO (fun w => x_lenVD (r := R_regex_step) tsl53 rfl rfl S 1 rfl y109_1h4 w) ?_
                  obtain ⟨y114, h115, H⟩ := obx H
                  refine AQ.pureE 10 rfl (by kernel_rfl) (by kernel_rfl) (by kernel_rfl) rfl hO (e_iaVD (r := R_regex_step) tsl53 rfl rfl S 1 rfl y109_1h4 rfl h115) ?_
                  rintro _ ⟨b116, cs117, cc118, rfl, hv119, hr120, hc121⟩
                  obtain ⟨y114v1, rfl, y114h1⟩ := hr120
                  refine AQ.pure 11 rfl (by kernel_rfl) (by kernel_rfl) (by kernel_rfl) rfl hO (fun w => x_fa tf59_4 rfl) ?_
                  refine AQ.pure 12 rfl (by kernel_rfl) (by kernel_rfl) (by kernel_rfl) rfl hO (fun w => x_iaA tar57 rfl rfl (by decide) (by decide)) ?_
                  refine AQ.one 13 [8, 3] [false, false] (by kernel_rfl) rfl (by kernel_rfl) ?_
                  refine U rfl rfl (o_stV (r := R_regex_step) (f := 4) (y' := (T_regex_step.mk y114.op y114.spans y114.all y114.not ((y109.2.prog.length : Int), y114.to_.2))) tone3 rfl S 1 rfl hv119 y109_1h4 h115 ⟨y114v1, rfl, y114h1⟩ hc121 rfl rfl rfl rfl ⟨y114v1, rfl, y114h1⟩ fun w a122 S h123 => ?_)
                  refine andI Hold.nil fun hO => ?_
                  refine AQ.done (by kernel_rfl) ?_
                  refine FW.seq ?_
                  refine FW.anew [(0, .pointer (some ⟨bx0, 0, none⟩)), (3, .pointer (some ⟨b1, 0, none⟩)), (8, .int .i64 y109.1)] ⟨rfl, rfl, rfl, trivial⟩ fun σ => ?_
                  refine FW.region ?_
                  refine U rfl rfl (V (x_movV (v := .pointer (some ⟨bx0, 0, none⟩)) rfl) ?_)
                  refine U rfl rfl (V (x_fa tf48_1 rfl) ?_)
                  refine U rfl rfl (V (x_ld tsc45 rfl (S.load 2 rfl 1 rfl)) ?_)
                  obtain ⟨y124, h125, H⟩ := obx H
                  refine U rfl rfl (o_ia (r := R_regex_piece) tsl45 rfl rfl x1h1 rfl h125 fun b126 o127 cs128 hr129 hc130 => ?_)
                  obtain ⟨y124v1, y124v2, rfl, y124h1, y124h2⟩ := R_regex_piece.un hr129
                  refine U rfl rfl (V (x_ldA tag48 rfl (S.loadI hc130) rfl) ?_)
                  obtain ⟨y131, hy132, H⟩ := obx H
                  refine U rfl rfl (cl fb19 (@ih_regex_Expr_compile k (by omega) (T_regex_Expr.mk y109.2.top (y109.2.prog.set y109.1.toNat (T_regex_step.mk y114.op y114.spans y114.all y114.not ((y109.2.prog.length : Int), y114.to_.2)))) y124 _ _ _ _ _ _ _ _ _ _ _ hG S y109_1h1 y109_1h2 h123 y124h1 y124h2 hy132) rfl ?_)
                  rintro _ w ⟨y131_0v1, y131_0v2, y131_0v4, cy131_0_4, J133, hJ134, rfl, y131_0h1, y131_0h2, y131_0h4, S⟩
                  have x1h1 := x1h1.mono hJ134
                  have hc130 := hc130.mono hJ134
                  have y124h1 := y124h1.mono hJ134
                  have y124h2 := y124h2.mono hJ134
                  have x1h2 := x1h2.mono hJ134
                  have hI := hI.trans hJ134
                  have hG := hG.mono hJ134
                  refine FW.seq ?_
                  refine FW.seq ?_
                  refine FW.region ?_
                  refine U rfl rfl (V (x_fa tf48_0 rfl) ?_)
                  refine U rfl rfl (V (x_ld tsc3 rfl (S.load 2 rfl 0 rfl)) ?_)
                  refine U rfl rfl (V (x_bin rfl rfl rfl) ?_)
                  obtain ⟨o149, H, HO150⟩ := obx H
                  have hL151 := IMem.le.refl J133
                  refine FW.cutN (fun σ w => ∃ (n136 : Int) (l137 : (List T_regex_piece)) (l140 : (List T_regex_span)) (b143 : Bool) (l144 : (List T_regex_step)) (v138 : Value) (v141 : Value) (v145 : Value) (a146 : List Value) (J135 : IMem), (n136, l137, l140, b143, l144) = o149 ∧ Has σ [(0, .pointer (some ⟨bx0, 0, none⟩)), (8, .int .i64 y109.1)] ∧ J133.le J135 ∧ Own J135 w (.bk bx0 55 [.int .i64 n136, v138, v141, .bool b143, v145] :: .bk b1 48 [.int .i64 x1.kind, x1v1, x1v2, .bool x1.not] :: .av v145 59 6 a146 :: F) ∧ SlR R_regex_piece J135 v138 l137 ∧ SlR R_regex_span J135 v141 l140 ∧ Flat R_regex_step J135 a146 l144) ?_ ?_
                  ·
                    by_cases cc152 : x1.kind = 7
                    · rw [if_pos cc152] at H
                      refine FW.condT rfl (eqT cc152) ?_
                      refine FW.seq ?_
                      refine FW.anew [(0, .pointer (some ⟨bx0, 0, none⟩)), (8, .int .i64 y109.1)] ⟨rfl, rfl, trivial⟩ fun σ => ?_
                      refine FW.region ?_
                      refine U rfl rfl (V (x_movV (v := .pointer (some ⟨bx0, 0, none⟩)) rfl) ?_)
                      refine U rfl rfl (V (x_bld tz59 tpl59 rfl (.one rfl PC.nil) rfl) ?_)
                      obtain ⟨y153, hy154, H⟩ := obx H
                      refine U rfl rfl (cl fb31 (@regex_Expr_put.ok k y131 (T_regex_step.mk 1 [] false false (0, 0)) _ _ _ _ _ _ _ _ _ _ hG S y131_0h1 y131_0h2 y131_0h4 (SlR.nil _ _) hy154) rfl ?_)
                      rintro _ w ⟨y153_1v1, y153_1v2, y153_1v4, cy153_1_4, J155, hJ156, rfl, y153_1h1, y153_1h2, y153_1h4, S⟩
                      have x1h1 := x1h1.mono hJ156
                      have x1h2 := x1h2.mono hJ156
                      have hI := hI.trans hJ156
                      have hL151 := hL151.trans hJ156
                      have hG := hG.mono hJ156
                      refine U rfl rfl (V (x_asgV (v := .int .i64 y153.1) rfl) ?_)
                      refine FW.region ?_
                      refine U rfl rfl (V (x_movV (v := .pointer (some ⟨bx0, 0, none⟩)) rfl) ?_)
                      refine U rfl rfl (V (x_nk rfl) ?_)
                      refine U rfl rfl (V (x_fa tf55_1 rfl) ?_)
                      refine U rfl rfl (V (x_ld tsc53 rfl (S.load 0 rfl 4 rfl)) ?_)
                      refine U rfl rfl (V (x_movV (v := .int .i64 y153.1) rfl) ?_)
                      refine U rfl rfl (V (x_movV (v := .int .i64 y109.1) rfl) ?_)
                      refine U rfl rfl (V (x_movV (v := .int .i64 y109.1) rfl) ?_)
                      refine U rfl rfl (V (x_bldA tar57 tz57 rfl (.one rfl (.one rfl PC.nil)) rfl) ?_)
                      obtain ⟨y157, h158, H⟩ := obx H
                      refine U rfl rfl (o_iaV (r := R_regex_step) tsl53 rfl rfl S 1 rfl y153_1h4 rfl h158 fun b159 cs160 cc161 hv162 hr163 hc164 => ?_)
                      obtain ⟨y157v1, rfl, y157h1⟩ := hr163
                      refine U rfl rfl (V (x_fa tf59_4 rfl) ?_)
                      refine U rfl rfl (o_stVA (r := R_regex_step) (f := 4) (y' := (T_regex_step.mk y157.op y157.spans y157.all y157.not (y109.1, y109.1))) tag57 rfl S 1 rfl hv162 y153_1h4 h158 ⟨y157v1, rfl, y157h1⟩ hc164 rfl rfl rfl rfl rfl (c1 rfl (c1 rfl c0)) ⟨y157v1, rfl, y157h1⟩ fun w a165 S h166 => ?_)
                      exact ⟨y153.2.top.kind, y153.2.top.parts, y153.2.top.spans, y153.2.top.not, (y153.2.prog.set y153.1.toNat (T_regex_step.mk y157.op y157.spans y157.all y157.not (y109.1, y109.1))), y153_1v1, y153_1v2, y153_1v4, a165, J155, (Option.some.inj H), ⟨rfl, rfl, trivial⟩, hL151, (S.sel 3 [0, 2, 1] rfl), y153_1h1, y153_1h2, h166⟩
                    · rw [if_neg cc152] at H
                      refine FW.condF rfl (eqF cc152) ?_
                      refine FW.skip ?_
                      exact ⟨y131.top.kind, y131.top.parts, y131.top.spans, y131.top.not, y131.prog, y131_0v1, y131_0v2, y131_0v4, cy131_0_4, J133, (Option.some.inj H), ⟨rfl, rfl, trivial⟩, hL151, (S.sel 3 [0, 2, 1] rfl), y131_0h1, y131_0h2, y131_0h4⟩
                  · rintro σ w ⟨n136, l137, l140, b143, l144, v138, v141, v145, a146, J135, ho, hσ, hL151, S, h139, h142, h147⟩
                    subst ho
                    have H := HO150
                    try dsimp only at H
                    have x1h1 := x1h1.mono hL151
                    have x1h2 := x1h2.mono hL151
                    have hI := hI.trans hL151
                    have hG := hG.mono hL151
                    rw [hσ.eq]
                    have S := S.drew
                    refine FW.regionD mixed ?_
                    have hO := Hold.nil (w := { w with drawn := w.drawn + 1 })
                    refine AQ.pure 0 rfl (by kernel_rfl) (by kernel_rfl) (by kernel_rfl) rfl hO (fun w => x_movV (v := .pointer (some ⟨bx0, 0, none⟩)) rfl) ?_
                    refine AQ.pure 1 rfl (by kernel_rfl) (by kernel_rfl) (by kernel_rfl) rfl hO (fun w => x_nk rfl) ?_
                    refine AQ.pure 2 rfl (by kernel_rfl) (by kernel_rfl) (by kernel_rfl) rfl hO (fun w => x_fa tf55_1 rfl) ?_
                    have hR167 := IMem.le.refl J135
                    refine AQ.take (S := Stab J135 [.bk bx0 55 [.int .i64 n136, v138, v141, .bool b143, v145]]) 3 rfl (by kernel_rfl) (by kernel_rfl) (by kernel_rfl) rfl hO (Stab.of S 0 rfl hR167) (fun w hS => x_ld tsc53 rfl (hS.load 0 rfl 4 rfl)) fun hO => ?_
                    refine AQ.pure 4 rfl (by kernel_rfl) (by kernel_rfl) (by kernel_rfl) rfl hO (fun w => x_movV (v := .int .i64 y109.1) rfl) ?_
                    refine AQ.pure 5 rfl (by kernel_rfl) (by kernel_rfl) (by kernel_rfl) rfl hO (fun w => x_movV (v := .pointer (some ⟨bx0, 0, none⟩)) rfl) ?_
                    refine AQ.pure 6 rfl (by kernel_rfl) (by kernel_rfl) (by kernel_rfl) rfl hO (fun w => x_nk rfl) ?_
                    refine AQ.pure 7 rfl (by kernel_rfl) (by kernel_rfl) (by kernel_rfl) rfl hO (fun w => x_fa tf55_1 rfl) ?_
                    refine AQ.take (S := Stab J135 [.bk bx0 55 [.int .i64 n136, v138, v141, .bool b143, v145]]) 8 rfl (by kernel_rfl) (by kernel_rfl) (by kernel_rfl) rfl hO (Stab.of S 0 rfl hR167) (fun w hS => x_ld tsc53 rfl (hS.load 0 rfl 4 rfl)) fun hO => ?_
                    refine AQ.pure 9 rfl (by kernel_rfl) (by kernel_rfl) (by kernel_rfl) rfl hO (fun w => x_lenVD (r := R_regex_step) tsl53 rfl rfl S 2 rfl h147 w) ?_
                    obtain ⟨y168, h169, H⟩ := obx H
                    refine AQ.pureE 10 rfl (by kernel_rfl) (by kernel_rfl) (by kernel_rfl) rfl hO (e_iaVD (r := R_regex_step) tsl53 rfl rfl S 2 rfl h147 rfl h169) ?_
                    rintro _ ⟨b170, cs171, cc172, rfl, hv173, hr174, hc175⟩
                    obtain ⟨y168v1, rfl, y168h1⟩ := hr174
                    refine AQ.pure 11 rfl (by kernel_rfl) (by kernel_rfl) (by kernel_rfl) rfl hO (fun w => x_fa tf59_4 rfl) ?_
                    refine AQ.pure 12 rfl (by kernel_rfl) (by kernel_rfl) (by kernel_rfl) rfl hO (fun w => x_iaA tar57 rfl rfl (by decide) (by decide)) ?_
                    refine AQ.one 13 [8, 3] [false, false] (by kernel_rfl) rfl (by kernel_rfl) ?_
                    refine U rfl rfl (o_stV (r := R_regex_step) (f := 5) (y' := (T_regex_step.mk y168.op y168.spans y168.all y168.not (y168.to_.1, (l144.length : Int)))) tone3 rfl S 2 rfl hv173 h147 h169 ⟨y168v1, rfl, y168h1⟩ hc175 rfl rfl rfl rfl ⟨y168v1, rfl, y168h1⟩ fun w a176 S h177 => ?_)
                    refine andI Hold.nil fun hO => ?_
                    refine AQ.done (by kernel_rfl) ?_
                    obtain rfl := Option.some.inj H
                    exact ⟨_, rfl, ⟨v138, v141, v145, a176, J135, hI, rfl, h139, h142, h177, (S.sel 3 [0, 2] rfl)⟩⟩
theorem regex_Expr_compile.zero : regex_Expr_compile.C 0 := by
  intro _ _ _ _ _ _ _ _ _ _ _ _ _ _ _ _ _ _ _ _ H; cases H
theorem regex_Expr_choices.step (k : Nat) (ih_regex_Expr_compile : ∀ m, m ≤ k → regex_Expr_compile.C m) : regex_Expr_choices.C (k + 1) := by
  intro x0 x1 x0v1 x0v2 x0v4 cx0_4 vx1 bx0 F I w r hG S x0h1 x0h2 x0h4 hx1 H
  have hI := IMem.le.refl I
  rw [regex_Expr_choices.f] at H
  refine Calls.ofFW (args := [.pointer (some ⟨bx0, 0, none⟩), vx1]) Tryd.func30 rfl rfl ?_
  refine FW.seq ?_
  refine FW.region ?_
  refine U rfl rfl (V (x_asgV (v := (.slice none 0 0)) rfl) ?_)
  refine FW.seq ?_
  refine FW.seq ?_
  refine FW.region ?_
  refine U rfl rfl (V (x_movV (v := vx1) rfl) ?_)
  refine U rfl rfl (V (x_lenD (r := R_regex_piece) tsl45 hx1) ?_)
  refine U rfl rfl (V (x_movV (v := .int .i64 0) rfl) ?_)
  refine FW.block ?_
  have S := S.nil_tv 3 1
  obtain ⟨o22, hl24, HO23⟩ := obx H
  refine FW.cutX 0 (fun σ w => ∃ (l26 : (List Int)) (n29 : Int) (l30 : (List T_regex_piece)) (l33 : (List T_regex_span)) (b36 : Bool) (l37 : (List T_regex_step)) (v27 : Value) (v31 : Value) (v34 : Value) (v38 : Value) (a39 : List Value) (J25 : IMem), (l26, n29, l30, l33, b36, l37) = o22 ∧ Has σ [(0, .pointer (some ⟨bx0, 0, none⟩)), (4, v27)] ∧ I.le J25 ∧ Own J25 w (.tv v27 3 1 :: .bk bx0 55 [.int .i64 n29, v31, v34, .bool b36, v38] :: .av v38 59 6 a39 :: F) ∧ SlR (tInt' .i64) J25 v27 l26 ∧ SlR R_regex_piece J25 v31 l30 ∧ SlR R_regex_span J25 v34 l33 ∧ Flat R_regex_step J25 a39 l37) ?_ ?_
  ·
    refine FW.loop k (FL.ind (fun q σ w => ∃ (l3 : (List Int)) (n6 : Int) (n7 : Int) (l8 : (List T_regex_piece)) (l11 : (List T_regex_span)) (b14 : Bool) (l15 : (List T_regex_step)) (v4 : Value) (v9 : Value) (v12 : Value) (v16 : Value) (a17 : List Value) (J2 : IMem), regex_Expr_choices.l0 q x1 l3 n6 n7 l8 l11 b14 l15 = some o22 ∧ q ≤ k ∧ Has σ [(0, .pointer (some ⟨bx0, 0, none⟩)), (1, vx1), (4, v4), (10, vx1), (11, .int .i64 (x1.length : Int)), (12, .int .i64 n6)] ∧ I.le J2 ∧ Own J2 w (.tv v4 3 1 :: .bk bx0 55 [.int .i64 n7, v9, v12, .bool b14, v16] :: .av v16 59 6 a17 :: F) ∧ SlR (tInt' .i64) J2 v4 l3 ∧ SlR R_regex_piece J2 v9 l8 ∧ SlR R_regex_span J2 v12 l11 ∧ Flat R_regex_step J2 a17 l15) ?_ ?_ k k _ _ (Nat.le_refl _) ⟨[], 0, x0.top.kind, x0.top.parts, x0.top.spans, x0.top.not, x0.prog, (.slice none 0 0), x0v1, x0v2, x0v4, cx0_4, I, hl24, Nat.le_refl _, ⟨rfl, rfl, rfl, rfl, rfl, rfl, trivial⟩, (IMem.le.refl _), S, (SlR.nil _ _), x0h1, x0h2, x0h4⟩)
    · rintro σ w ⟨l3, n6, n7, l8, l11, b14, l15, v4, v9, v12, v16, a17, J2, H, _⟩; cases H
    · rintro q20 σ w ⟨l3, n6, n7, l8, l11, b14, l15, v4, v9, v12, v16, a17, J2, H, hq42, hσ, hL21, S, h5, h10, h13, h18⟩
      have hx1 := hx1.mono hL21
      have hI := hI.trans hL21
      have hG := hG.mono hL21
      rw [hσ.eq]
      rw [regex_Expr_choices.l0] at H
      refine FW.seq ?_
      refine FW.region ?_
      refine U rfl rfl (V (x_bin rfl rfl rfl) ?_)
      refine FW.seq ?_
      by_cases cc43 : n6 < (x1.length : Int)
      · rw [if_pos cc43] at H
        refine FW.condT rfl (deT cc43) ?_
        refine FW.skip ?_
        refine FW.seq ?_
        refine FW.block ?_
        refine FW.seq ?_
        refine FW.region ?_
        refine U rfl rfl (V (x_movV (v := .int .i64 n6) rfl) ?_)
        obtain ⟨y44, h45, H⟩ := obx H
        refine U rfl rfl (o_ia (r := R_regex_piece) tsl45 rfl rfl hx1 rfl h45 fun b46 o47 cs48 hr49 hc50 => ?_)
        obtain ⟨y44v1, y44v2, rfl, y44h1, y44h2⟩ := R_regex_piece.un hr49
        refine U rfl rfl (V (x_ldA tag48 rfl (S.loadI hc50) rfl) ?_)
        refine U rfl rfl (o_all tz48 S fun b51 w S => ?_)
        refine U rfl rfl (V (x_asgV (v := .int .i64 n6) rfl) ?_)
        refine U rfl rfl (o_stA tag48 S 0 rfl rfl rfl rfl (c1 rfl (c1 y44h1.one (c1 y44h2.one (c1 rfl c0)))) rfl fun w S => ?_)
        refine FW.seq ?_
        refine FW.seq ?_
        refine FW.anew [(0, .pointer (some ⟨bx0, 0, none⟩)), (1, vx1), (4, v4), (5, .int .i64 n6), (6, .pointer (some ⟨b51, 0, none⟩)), (10, vx1), (11, .int .i64 (x1.length : Int)), (12, .int .i64 n6)] ⟨rfl, rfl, rfl, rfl, rfl, rfl, rfl, rfl, trivial⟩ fun σ => ?_
        refine FW.region ?_
        refine U rfl rfl (V (x_movV (v := .int .i64 n6) rfl) ?_)
        refine U rfl rfl (V (x_movV (v := vx1) rfl) ?_)
        refine U rfl rfl (V (x_lenD (r := R_regex_piece) tsl45 hx1) ?_)
        refine U rfl rfl (V (x_bin rfl rfl rfl) ?_)
        refine U rfl rfl (V (x_bin rfl rfl rfl) ?_)
        by_cases cc52 : n6 = (i64 ((x1.length : Int) - 1))
        · rw [if_pos cc52] at H
          refine FW.condT rfl (eqT cc52) ?_
          refine FW.seq ?_
          refine FW.region ?_
          refine U rfl rfl (V (x_movV (v := .pointer (some ⟨bx0, 0, none⟩)) rfl) ?_)
          refine U rfl rfl (V (x_ldA tag48 rfl (S.loadW 0 rfl) rfl) ?_)
          obtain ⟨y53, hy54, H⟩ := obx H
          refine U rfl rfl (cl fb19 (@ih_regex_Expr_compile q20 (by omega) (T_regex_Expr.mk (T_regex_piece.mk n7 l8 l11 b14) l15) y44 _ _ _ _ _ _ _ _ _ _ _ hG (S.sel 4 [2, 3, 0, 1] rfl) h10 h13 h18 y44h1 y44h2 hy54) rfl ?_)
          rintro _ w ⟨y53_0v1, y53_0v2, y53_0v4, cy53_0_4, J55, hJ56, rfl, y53_0h1, y53_0h2, y53_0h4, S⟩
          have h5 := h5.mono hJ56
          have y44h1 := y44h1.mono hJ56
          have y44h2 := y44h2.mono hJ56
          have hI := hI.trans hJ56
          have hL21 := hL21.trans hJ56
          have hG := hG.mono hJ56
          refine FW.exit ?_
          exact ⟨l3, y53.top.kind, y53.top.parts, y53.top.spans, y53.top.not, y53.prog, v4, y53_0v1, y53_0v2, y53_0v4, cy53_0_4, J55, (Option.some.inj H), ⟨rfl, rfl, trivial⟩, hL21, (S.sel 4 [3, 0, 1] rfl), h5, y53_0h1, y53_0h2, y53_0h4⟩
        · rw [if_neg cc52] at H
          refine FW.condF rfl (eqF cc52) ?_
          refine FW.skip ?_
          refine FW.seq ?_
          refine FW.region ?_
          refine U rfl rfl (V (x_movV (v := .pointer (some ⟨bx0, 0, none⟩)) rfl) ?_)
          refine U rfl rfl (V (x_bld tz59 tpl59 rfl (.one rfl PC.nil) rfl) ?_)
          obtain ⟨y57, hy58, H⟩ := obx H
          refine U rfl rfl (cl fb31 (@regex_Expr_put.ok q20 (T_regex_Expr.mk (T_regex_piece.mk n7 l8 l11 b14) l15) (T_regex_step.mk 1 [] false false (0, 0)) _ _ _ _ _ _ _ _ _ _ hG (S.sel 4 [2, 3, 0, 1] rfl) h10 h13 h18 (SlR.nil _ _) hy58) rfl ?_)
          rintro _ w ⟨y57_1v1, y57_1v2, y57_1v4, cy57_1_4, J59, hJ60, rfl, y57_1h1, y57_1h2, y57_1h4, S⟩
          have hx1 := hx1.mono hJ60
          have h5 := h5.mono hJ60
          have y44h1 := y44h1.mono hJ60
          have y44h2 := y44h2.mono hJ60
          have hI := hI.trans hJ60
          have hL21 := hL21.trans hJ60
          have hG := hG.mono hJ60
          refine U rfl rfl (V (x_asgV (v := .int .i64 y57.1) rfl) ?_)
          refine FW.seq ?_
          refine FW.anew [(0, .pointer (some ⟨bx0, 0, none⟩)), (1, vx1), (4, v4), (6, .pointer (some ⟨b51, 0, none⟩)), (7, .int .i64 y57.1), (10, vx1), (11, .int .i64 (x1.length : Int)), (12, .int .i64 n6)] ⟨rfl, rfl, rfl, rfl, rfl, rfl, rfl, rfl, trivial⟩ fun σ => ?_
          have S := S.drew
          refine FW.regionD mixed ?_
          have hO := Hold.nil (w := { w with drawn := w.drawn + 1 })
          refine AQ.pure 0 rfl (by kernel_rfl) (by kernel_rfl) (by kernel_rfl) rfl hO (fun w => x_movV (v := .pointer (some ⟨bx0, 0, none⟩)) rfl) ?_
          refine AQ.pure 1 rfl (by kernel_rfl) (by kernel_rfl) (by kernel_rfl) rfl hO (fun w => x_nk rfl) ?_
          refine AQ.pure 2 rfl (by kernel_rfl) (by kernel_rfl) (by kernel_rfl) rfl hO (fun w => x_fa tf55_1 rfl) ?_
          have hR61 := IMem.le.refl J59
          refine AQ.take (S := Stab J59 [.bk bx0 55 [.int .i64 y57.2.top.kind, y57_1v1, y57_1v2, .bool y57.2.top.not, y57_1v4]]) 3 rfl (by kernel_rfl) (by kernel_rfl) (by kernel_rfl) rfl hO (Stab.of S 0 rfl hR61) (fun w hS => x_ld tsc53 rfl (hS.load 0 rfl 4 rfl)) fun hO => ?_
          refine AQ.pure 4 rfl (by kernel_rfl) (by kernel_rfl) (by kernel_rfl) rfl hO (fun w => x_movV (v := .int .i64 y57.1) rfl) ?_
          refine AQ.pure 5 rfl (by kernel_rfl) (by kernel_rfl) (by kernel_rfl) rfl hO (fun w => x_movV (v := .pointer (some ⟨bx0, 0, none⟩)) rfl) ?_
          refine AQ.pure 6 rfl (by kernel_rfl) (by kernel_rfl) (by kernel_rfl) rfl hO (fun w => x_nk rfl) ?_
          refine AQ.pure 7 rfl (by kernel_rfl) (by kernel_rfl) (by kernel_rfl) rfl hO (fun w => x_fa tf55_1 rfl) ?_
          refine AQ.take (S := Stab J59 [.bk bx0 55 [.int .i64 y57.2.top.kind, y57_1v1, y57_1v2, .bool y57.2.top.not, y57_1v4]]) 8 rfl (by kernel_rfl) (by kernel_rfl) (by kernel_rfl) rfl hO (Stab.of S 0 rfl hR61) (fun w hS => x_ld tsc53 rfl (hS.load 0 rfl 4 rfl)) fun hO => ?_
          refine AQ.pure 9 rfl (by kernel_rfl) (by kernel_rfl) (by kernel_rfl) rfl hO (fun w => x_lenVD (r := R_regex_step) tsl53 rfl rfl S 1 rfl y57_1h4 w) ?_
          obtain ⟨y62, h63, H⟩ := obx H
          refine AQ.pureE 10 rfl (by kernel_rfl) (by kernel_rfl) (by kernel_rfl) rfl hO (e_iaVD (r := R_regex_step) tsl53 rfl rfl S 1 rfl y57_1h4 rfl h63) ?_
          rintro _ ⟨b64, cs65, cc66, rfl, hv67, hr68, hc69⟩
          obtain ⟨y62v1, rfl, y62h1⟩ := hr68
          refine AQ.pure 11 rfl (by kernel_rfl) (by kernel_rfl) (by kernel_rfl) rfl hO (fun w => x_fa tf59_4 rfl) ?_
          refine AQ.pure 12 rfl (by kernel_rfl) (by kernel_rfl) (by kernel_rfl) rfl hO (fun w => x_iaA tar57 rfl rfl (by decide) (by decide)) ?_
          refine AQ.one 13 [8, 3] [false, false] (by kernel_rfl) rfl (by kernel_rfl) ?_
          refine U rfl rfl (o_stV (r := R_regex_step) (f := 4) (y' := (T_regex_step.mk y62.op y62.spans y62.all y62.not ((y57.2.prog.length : Int), y62.to_.2))) tone3 rfl S 1 rfl hv67 y57_1h4 h63 ⟨y62v1, rfl, y62h1⟩ hc69 rfl rfl rfl rfl ⟨y62v1, rfl, y62h1⟩ fun w a70 S h71 => ?_)
          refine andI Hold.nil fun hO => ?_
          refine AQ.done (by kernel_rfl) ?_
          refine FW.seq ?_
          refine FW.anew [(0, .pointer (some ⟨bx0, 0, none⟩)), (1, vx1), (4, v4), (6, .pointer (some ⟨b51, 0, none⟩)), (7, .int .i64 y57.1), (10, vx1), (11, .int .i64 (x1.length : Int)), (12, .int .i64 n6)] ⟨rfl, rfl, rfl, rfl, rfl, rfl, rfl, rfl, trivial⟩ fun σ => ?_
          refine FW.region ?_
          refine U rfl rfl (V (x_movV (v := .pointer (some ⟨bx0, 0, none⟩)) rfl) ?_)
          refine U rfl rfl (V (x_ldA tag48 rfl (S.loadW 2 rfl) rfl) ?_)
          obtain ⟨y72, hy73, H⟩ := obx H
          refine U rfl rfl (cl fb19 (@ih_regex_Expr_compile q20 (by omega) (T_regex_Expr.mk y57.2.top (y57.2.prog.set y57.1.toNat (T_regex_step.mk y62.op y62.spans y62.all y62.not ((y57.2.prog.length : Int), y62.to_.2)))) y44 _ _ _ _ _ _ _ _ _ _ _ hG S y57_1h1 y57_1h2 h71 y44h1 y44h2 hy73) rfl ?_)
          rintro _ w ⟨y72_0v1, y72_0v2, y72_0v4, cy72_0_4, J74, hJ75, rfl, y72_0h1, y72_0h2, y72_0h4, S⟩
          have hx1 := hx1.mono hJ75
          have h5 := h5.mono hJ75
          have y44h1 := y44h1.mono hJ75
          have y44h2 := y44h2.mono hJ75
          have hI := hI.trans hJ75
          have hL21 := hL21.trans hJ75
          have hG := hG.mono hJ75
          refine FW.seq ?_
          refine FW.region ?_
          refine U rfl rfl (V (x_movV (v := v4) rfl) ?_)
          refine U rfl rfl (V (x_movV (v := .pointer (some ⟨bx0, 0, none⟩)) rfl) ?_)
          refine U rfl rfl (V (x_bld tz59 tpl59 rfl (.one rfl PC.nil) rfl) ?_)
          obtain ⟨y76, hy77, H⟩ := obx H
          refine U rfl rfl (cl fb31 (@regex_Expr_put.ok q20 y72 (T_regex_step.mk 1 [] false false (0, 0)) _ _ _ _ _ _ _ _ _ _ hG S y72_0h1 y72_0h2 y72_0h4 (SlR.nil _ _) hy77) rfl ?_)
          rintro _ w ⟨y76_1v1, y76_1v2, y76_1v4, cy76_1_4, J78, hJ79, rfl, y76_1h1, y76_1h2, y76_1h4, S⟩
          have hx1 := hx1.mono hJ79
          have h5 := h5.mono hJ79
          have y44h1 := y44h1.mono hJ79
          have y44h2 := y44h2.mono hJ79
          have hI := hI.trans hJ79
          have hL21 := hL21.trans hJ79
          have hG := hG.mono hJ79
          refine U rfl rfl (o_bsl tsl75 tz3 rfl rfl rfl rfl (.one rfl PC.nil) rfl S fun b80 w S => ?_)
          obtain ⟨J81, hJ83, S, h82⟩ := S.freeze (r := (tInt' .i64)) (l := [y76.1]) 0 rfl ⟨[.int .i64 y76.1], _, rfl, rfl, rfl⟩ rfl rfl
          have hx1 := hx1.mono hJ83
          have h5 := h5.mono hJ83
          have y76_1h1 := y76_1h1.mono hJ83
          have y76_1h2 := y76_1h2.mono hJ83
          have y76_1h4 := y76_1h4.mono hJ83
          have y44h1 := y44h1.mono hJ83
          have y44h2 := y44h2.mono hJ83
          have hI := hI.trans hJ83
          have hL21 := hL21.trans hJ83
          have hG := hG.mono hJ83
          obtain ⟨l84, h86, H⟩ := obx H
          refine U rfl rfl (o_appD (r := (tInt' .i64)) tsl75 rfl tz3 rfl rfl S 4 rfl rfl h5 h82 h86 fun v85 w J88 hJ89 S h87 => ?_)
          have hx1 := hx1.mono hJ89
          have h5 := h5.mono hJ89
          have h82 := h82.mono hJ89
          have y76_1h1 := y76_1h1.mono hJ89
          have y76_1h2 := y76_1h2.mono hJ89
          have y76_1h4 := y76_1h4.mono hJ89
          have y44h1 := y44h1.mono hJ89
          have y44h2 := y44h2.mono hJ89
          have hI := hI.trans hJ89
          have hL21 := hL21.trans hJ89
          have hG := hG.mono hJ89
          refine U rfl rfl (V (x_asgV (v := v85) rfl) ?_)
          refine FW.anew [(0, .pointer (some ⟨bx0, 0, none⟩)), (1, vx1), (4, v85), (7, .int .i64 y57.1), (10, vx1), (11, .int .i64 (x1.length : Int)), (12, .int .i64 n6)] ⟨rfl, rfl, rfl, rfl, rfl, rfl, rfl, trivial⟩ fun σ => ?_
          have S := S.drew
          refine FW.regionD mixed ?_
          have hO := Hold.nil (w := { w with drawn := w.drawn + 1 })
          refine AQ.pure 0 rfl (by kernel_rfl) (by kernel_rfl) (by kernel_rfl) rfl hO (fun w => x_movV (v := .pointer (some ⟨bx0, 0, none⟩)) rfl) ?_
          refine AQ.pure 1 rfl (by kernel_rfl) (by kernel_rfl) (by kernel_rfl) rfl hO (fun w => x_nk rfl) ?_
          refine AQ.pure 2 rfl (by kernel_rfl) (by kernel_rfl) (by kernel_rfl) rfl hO (fun w => x_fa tf55_1 rfl) ?_
          have hR90 := IMem.le.refl J88
          refine AQ.take (S := Stab J88 [.bk bx0 55 [.int .i64 y76.2.top.kind, y76_1v1, y76_1v2, .bool y76.2.top.not, y76_1v4]]) 3 rfl (by kernel_rfl) (by kernel_rfl) (by kernel_rfl) rfl hO (Stab.of S 1 rfl hR90) (fun w hS => x_ld tsc53 rfl (hS.load 0 rfl 4 rfl)) fun hO => ?_
          refine AQ.pure 4 rfl (by kernel_rfl) (by kernel_rfl) (by kernel_rfl) rfl hO (fun w => x_movV (v := .int .i64 y57.1) rfl) ?_
          refine AQ.pure 5 rfl (by kernel_rfl) (by kernel_rfl) (by kernel_rfl) rfl hO (fun w => x_movV (v := .pointer (some ⟨bx0, 0, none⟩)) rfl) ?_
          refine AQ.pure 6 rfl (by kernel_rfl) (by kernel_rfl) (by kernel_rfl) rfl hO (fun w => x_nk rfl) ?_
          refine AQ.pure 7 rfl (by kernel_rfl) (by kernel_rfl) (by kernel_rfl) rfl hO (fun w => x_fa tf55_1 rfl) ?_
          refine AQ.take (S := Stab J88 [.bk bx0 55 [.int .i64 y76.2.top.kind, y76_1v1, y76_1v2, .bool y76.2.top.not, y76_1v4]]) 8 rfl (by kernel_rfl) (by kernel_rfl) (by kernel_rfl) rfl hO (Stab.of S 1 rfl hR90) (fun w hS => x_ld tsc53 rfl (hS.load 0 rfl 4 rfl)) fun hO => ?_
          refine AQ.pure 9 rfl (by kernel_rfl) (by kernel_rfl) (by kernel_rfl) rfl hO (fun w => x_lenVD (r := R_regex_step) tsl53 rfl rfl S 2 rfl y76_1h4 w) ?_
          obtain ⟨y91, h92, H⟩ := obx H
          refine AQ.pureE 10 rfl (by kernel_rfl) (by kernel_rfl) (by kernel_rfl) rfl hO (e_iaVD (r := R_regex_step) tsl53 rfl rfl S 2 rfl y76_1h4 rfl h92) ?_
          rintro _ ⟨b93, cs94, cc95, rfl, hv96, hr97, hc98⟩
          obtain ⟨y91v1, rfl, y91h1⟩ := hr97
          refine AQ.pure 11 rfl (by kernel_rfl) (by kernel_rfl) (by kernel_rfl) rfl hO (fun w => x_fa tf59_4 rfl) ?_
          refine AQ.pure 12 rfl (by kernel_rfl) (by kernel_rfl) (by kernel_rfl) rfl hO (fun w => x_iaA tar57 rfl rfl (by decide) (by decide)) ?_
          refine AQ.one 13 [8, 3] [false, false] (by kernel_rfl) rfl (by kernel_rfl) ?_
          refine U rfl rfl (o_stV (r := R_regex_step) (f := 5) (y' := (T_regex_step.mk y91.op y91.spans y91.all y91.not (y91.to_.1, (y76.2.prog.length : Int)))) tone3 rfl S 2 rfl hv96 y76_1h4 h92 ⟨y91v1, rfl, y91h1⟩ hc98 rfl rfl rfl rfl ⟨y91v1, rfl, y91h1⟩ fun w a99 S h100 => ?_)
          refine andI Hold.nil fun hO => ?_
          refine AQ.done (by kernel_rfl) ?_
          refine FW.anew [(0, .pointer (some ⟨bx0, 0, none⟩)), (1, vx1), (4, v85), (10, vx1), (11, .int .i64 (x1.length : Int)), (12, .int .i64 n6)] ⟨rfl, rfl, rfl, rfl, rfl, rfl, trivial⟩ fun σ => ?_
          refine FW.region ?_
          refine U rfl rfl (V (x_bin rfl rfl rfl) ?_)
          refine U rfl rfl (V (x_movV (v := .int .i64 (i64 (n6 + 1))) rfl) ?_)
          exact ⟨q20, Nat.le_refl _, l84, (i64 (n6 + 1)), y76.2.top.kind, y76.2.top.parts, y76.2.top.spans, y76.2.top.not, (y76.2.prog.set y57.1.toNat (T_regex_step.mk y91.op y91.spans y91.all y91.not (y91.to_.1, (y76.2.prog.length : Int)))), v85, y76_1v1, y76_1v2, y76_1v4, a99, J88, H, (Nat.le_of_succ_le hq42), ⟨rfl, rfl, rfl, rfl, rfl, rfl, trivial⟩, hL21, (S.sel 5 [4, 1, 2] rfl), h87, y76_1h1, y76_1h2, h100⟩
      · rw [if_neg cc43] at H
        refine FW.condF rfl (deF cc43) ?_
        refine FW.exit ?_
        exact ⟨l3, n7, l8, l11, b14, l15, v4, v9, v12, v16, a17, J2, (Option.some.inj H), ⟨rfl, rfl, trivial⟩, hL21, S, h5, h10, h13, h18⟩
  · rintro σ w ⟨l26, n29, l30, l33, b36, l37, v27, v31, v34, v38, a39, J25, ho, hσ, hL21, S, h28, h32, h35, h40⟩
    subst ho
    have H := HO23
    try dsimp only at H
    have hI := hI.trans hL21
    have hG := hG.mono hL21
    rw [hσ.eq]
    refine FW.seq ?_
    refine FW.region ?_
    refine U rfl rfl (V (x_movV (v := v27) rfl) ?_)
    refine U rfl rfl (V (x_lenD (r := (tInt' .i64)) tsl75 h28) ?_)
    refine U rfl rfl (V (x_movV (v := .int .i64 0) rfl) ?_)
    refine FW.block ?_
    obtain ⟨o110, hl112, HO111⟩ := obx H
    refine FW.cutX 2 (fun σ w => ∃ (l114 : (List T_regex_step)) (v115 : Value) (a116 : List Value) (J113 : IMem), l114 = o110 ∧ Has σ [] ∧ J25.le J113 ∧ Own J113 w (.bk bx0 55 [.int .i64 n29, v31, v34, .bool b36, v115] :: .av v115 59 6 a116 :: F) ∧ Flat R_regex_step J113 a116 l114) ?_ ?_
    ·
      refine FW.loop k (FL.ind (fun q σ w => ∃ (n102 : Int) (l103 : (List T_regex_step)) (v104 : Value) (a105 : List Value) (J101 : IMem), regex_Expr_choices.l1 q l26 n102 l103 = some o110 ∧ q ≤ k ∧ Has σ [(0, .pointer (some ⟨bx0, 0, none⟩)), (64, v27), (65, .int .i64 (l26.length : Int)), (66, .int .i64 n102)] ∧ J25.le J101 ∧ Own J101 w (.tv v27 3 1 :: .bk bx0 55 [.int .i64 n29, v31, v34, .bool b36, v104] :: .av v104 59 6 a105 :: F) ∧ Flat R_regex_step J101 a105 l103) ?_ ?_ k k _ _ (Nat.le_refl _) ⟨0, l37, v38, a39, J25, hl112, Nat.le_refl _, ⟨rfl, rfl, rfl, rfl, trivial⟩, (IMem.le.refl _), S, h40⟩)
      · rintro σ w ⟨n102, l103, v104, a105, J101, H, _⟩; cases H
      · rintro q108 σ w ⟨n102, l103, v104, a105, J101, H, hq119, hσ, hL109, S, h106⟩
        have h28 := h28.mono hL109
        have h32 := h32.mono hL109
        have h35 := h35.mono hL109
        have hI := hI.trans hL109
        have hG := hG.mono hL109
        rw [hσ.eq]
        rw [regex_Expr_choices.l1] at H
        refine FW.seq ?_
        refine FW.region ?_
        refine U rfl rfl (V (x_bin rfl rfl rfl) ?_)
        refine FW.seq ?_
        by_cases cc120 : n102 < (l26.length : Int)
        · rw [if_pos cc120] at H
          refine FW.condT rfl (deT cc120) ?_
          refine FW.skip ?_
          refine FW.seq ?_
          refine FW.block ?_
          refine FW.seq ?_
          refine FW.region ?_
          obtain ⟨y121, h122, H⟩ := obx H
          refine U rfl rfl (o_ia (r := (tInt' .i64)) tsl75 rfl rfl h28 rfl h122 fun b123 o124 cs125 hr126 hc127 => ?_)
          obtain rfl := hr126
          refine U rfl rfl (V (x_ld tsc3 rfl (S.cell _ _ _ (hc127 0 _ rfl))) ?_)
          refine U rfl rfl (V (x_asgV (v := .int .i64 y121) rfl) ?_)
          have S := S.drew
          refine FW.regionD mixed ?_
          have hO := Hold.nil (w := { w with drawn := w.drawn + 1 })
          refine AQ.pure 0 rfl (by kernel_rfl) (by kernel_rfl) (by kernel_rfl) rfl hO (fun w => x_movV (v := .pointer (some ⟨bx0, 0, none⟩)) rfl) ?_
          refine AQ.pure 1 rfl (by kernel_rfl) (by kernel_rfl) (by kernel_rfl) rfl hO (fun w => x_nk rfl) ?_
          refine AQ.pure 2 rfl (by kernel_rfl) (by kernel_rfl) (by kernel_rfl) rfl hO (fun w => x_fa tf55_1 rfl) ?_
          have hR128 := IMem.le.refl J101
          refine AQ.take (S := Stab J101 [.bk bx0 55 [.int .i64 n29, v31, v34, .bool b36, v104]]) 3 rfl (by kernel_rfl) (by kernel_rfl) (by kernel_rfl) rfl hO (Stab.of S 1 rfl hR128) (fun w hS => x_ld tsc53 rfl (hS.load 0 rfl 4 rfl)) fun hO => ?_
          refine AQ.pure 4 rfl (by kernel_rfl) (by kernel_rfl) (by kernel_rfl) rfl hO (fun w => x_movV (v := .int .i64 y121) rfl) ?_
          refine AQ.pure 5 rfl (by kernel_rfl) (by kernel_rfl) (by kernel_rfl) rfl hO (fun w => x_movV (v := .pointer (some ⟨bx0, 0, none⟩)) rfl) ?_
          refine AQ.pure 6 rfl (by kernel_rfl) (by kernel_rfl) (by kernel_rfl) rfl hO (fun w => x_nk rfl) ?_
          refine AQ.pure 7 rfl (by kernel_rfl) (by kernel_rfl) (by kernel_rfl) rfl hO (fun w => x_fa tf55_1 rfl) ?_
          refine AQ.take (S := Stab J101 [.bk bx0 55 [.int .i64 n29, v31, v34, .bool b36, v104]]) 8 rfl (by kernel_rfl) (by kernel_rfl) (by kernel_rfl) rfl hO (Stab.of S 1 rfl hR128) (fun w hS => x_ld tsc53 rfl (hS.load 0 rfl 4 rfl)) fun hO => ?_
          refine AQ.pure 9 rfl (by kernel_rfl) (by kernel_rfl) (by kernel_rfl) rfl hO (fun w => x_lenVD (r := R_regex_step) tsl53 rfl rfl S 2 rfl h106 w) ?_
          refine AQ.pure 10 rfl (by kernel_rfl) (by kernel_rfl) (by kernel_rfl) rfl hO (fun w => x_movV (v := .pointer (some ⟨bx0, 0, none⟩)) rfl) ?_
          refine AQ.pure 11 rfl (by kernel_rfl) (by kernel_rfl) (by kernel_rfl) rfl hO (fun w => x_nk rfl) ?_
          refine AQ.pure 12 rfl (by kernel_rfl) (by kernel_rfl) (by kernel_rfl) rfl hO (fun w => x_fa tf55_1 rfl) ?_
          refine AQ.take (S := Stab J101 [.bk bx0 55 [.int .i64 n29, v31, v34, .bool b36, v104]]) 13 rfl (by kernel_rfl) (by kernel_rfl) (by kernel_rfl) rfl hO (Stab.of S 1 rfl hR128) (fun w hS => x_ld tsc53 rfl (hS.load 0 rfl 4 rfl)) fun hO => ?_
          refine AQ.pure 14 rfl (by kernel_rfl) (by kernel_rfl) (by kernel_rfl) rfl hO (fun w => x_lenVD (r := R_regex_step) tsl53 rfl rfl S 2 rfl h106 w) ?_
          refine AQ.pure 15 rfl (by kernel_rfl) (by kernel_rfl) (by kernel_rfl) rfl hO (fun w => x_bldA tar57 tz57 rfl (.one rfl (.one rfl PC.nil)) rfl) ?_
          obtain ⟨y129, h130, H⟩ := obx H
          refine AQ.pureE 16 rfl (by kernel_rfl) (by kernel_rfl) (by kernel_rfl) rfl hO (e_iaVD (r := R_regex_step) tsl53 rfl rfl S 2 rfl h106 rfl h130) ?_
          rintro _ ⟨b131, cs132, cc133, rfl, hv134, hr135, hc136⟩
          obtain ⟨y129v1, rfl, y129h1⟩ := hr135
          refine AQ.pure 17 rfl (by kernel_rfl) (by kernel_rfl) (by kernel_rfl) rfl hO (fun w => x_fa tf59_4 rfl) ?_
          refine AQ.one 18 [13, 8, 3] [false, false, false] (by kernel_rfl) rfl (by kernel_rfl) ?_
          refine U rfl rfl (o_stVA (r := R_regex_step) (f := 4) (y' := (T_regex_step.mk y129.op y129.spans y129.all y129.not ((l103.length : Int), (l103.length : Int)))) tag57 rfl S 2 rfl hv134 h106 h130 ⟨y129v1, rfl, y129h1⟩ hc136 rfl rfl rfl rfl rfl (c1 rfl (c1 rfl c0)) ⟨y129v1, rfl, y129h1⟩ fun w a137 S h138 => ?_)
          refine andI Hold.nil fun hO => ?_
          refine AQ.done (by kernel_rfl) ?_
          refine FW.anew [(0, .pointer (some ⟨bx0, 0, none⟩)), (64, v27), (65, .int .i64 (l26.length : Int)), (66, .int .i64 n102)] ⟨rfl, rfl, rfl, rfl, trivial⟩ fun σ => ?_
          refine FW.region ?_
          refine U rfl rfl (V (x_bin rfl rfl rfl) ?_)
          refine U rfl rfl (V (x_movV (v := .int .i64 (i64 (n102 + 1))) rfl) ?_)
          exact ⟨q108, Nat.le_refl _, (i64 (n102 + 1)), (l103.set y121.toNat (T_regex_step.mk y129.op y129.spans y129.all y129.not ((l103.length : Int), (l103.length : Int)))), v104, a137, J101, H, (Nat.le_of_succ_le hq119), ⟨rfl, rfl, rfl, rfl, trivial⟩, hL109, S, h138⟩
        · rw [if_neg cc120] at H
          refine FW.condF rfl (deF cc120) ?_
          refine FW.exit ?_
          exact ⟨l103, v104, a105, J101, (Option.some.inj H), trivial, hL109, (S.sel 3 [1, 2] rfl), h106⟩
    · rintro σ w ⟨l114, v115, a116, J113, ho, hσ, hL109, S, h117⟩
      subst ho
      have H := HO111
      have h32 := h32.mono hL109
      have h35 := h35.mono hL109
      have hI := hI.trans hL109
      have hG := hG.mono hL109
      rw [hσ.eq]
      obtain rfl := Option.some.inj H
      exact ⟨_, rfl, ⟨v31, v34, v115, a116, J113, hI, rfl, h32, h35, h117, S⟩⟩
theorem regex_Expr_choices.zero : regex_Expr_choices.C 0 := by
  intro _ _ _ _ _ _ _ _ _ _ _ _ _ _ _ _ _ _ H; cases H
theorem regex_Expr_compile.grp : ∀ k m, m ≤ k → regex_Expr_compile.C m ∧ regex_Expr_choices.C m
  | 0, m, h => by
    obtain rfl : m = 0 := by omega
    exact ⟨regex_Expr_compile.zero, regex_Expr_choices.zero⟩
  | k + 1, 0, _ => ⟨regex_Expr_compile.zero, regex_Expr_choices.zero⟩
  | k + 1, m + 1, h => ⟨regex_Expr_compile.step m (fun i hi => (regex_Expr_compile.grp k i (by omega)).1) (fun i hi => (regex_Expr_compile.grp k i (by omega)).2), regex_Expr_choices.step m (fun i hi => (regex_Expr_compile.grp k i (by omega)).1)⟩
theorem regex_Expr_compile.ok (k : Nat) : regex_Expr_compile.C k := (regex_Expr_compile.grp k k (Nat.le_refl k)).1
theorem regex_Expr_choices.ok (k : Nat) : regex_Expr_choices.C k := (regex_Expr_compile.grp k k (Nat.le_refl k)).2

def regex_Parse.f (k : Nat) (x0 : ByteArray) : Option ((Option T_regex_Expr) × Int) := (if (x0.size : Int) > 100 then (some (none, 4)) else ((regex_signs.f k x0).bind fun y2 => (if y2.2 = true then ((regex_reader_choices.f k (T_regex_reader.mk y2.1 false)).bind fun y8 => ((regex_reader_peek.f k y8.2).bind fun y13 => (if y13.2.bad = true then (some (none, 14)) else (if y13.1.digits = true then (some (none, 14)) else (if y13.1.c = 0 then ((regex_Expr_compile.f k (T_regex_Expr.mk y8.1 []) y8.1).bind fun y23 => ((app 56 y23.prog ([(T_regex_step.mk 4 [] false false (0, 0))])).bind fun l31 => (some ((some (T_regex_Expr.mk y23.top l31)), 0)))) else (some (none, 14))))))) else (some (none, 14)))))
abbrev regex_Parse.C (k : Nat) : Prop := ∀ {x0 : ByteArray} {F : List It} {I : IMem} {w : World} {r : (Option T_regex_Expr) × Int}, Glob I → Own I w (F) → regex_Parse.f k x0 = some r →
    Calls Tryd.prog 8 #[.string x0] w fun e w' => ∃ v, e = .returned v ∧ ∃ (vy_0 : Value) (J : IMem), I.le J ∧ v = .tuple #[vy_0, .int .i64 r.2] ∧ PtR R_regex_Expr J vy_0 r.1 ∧ Own J w' (F)
theorem regex_Parse.ok (k : Nat) : regex_Parse.C k := by
  intro x0 F I w r hG S H
  have hI := IMem.le.refl I
  rw [regex_Parse.f] at H
  refine Calls.ofFW (args := [.string x0]) Tryd.func8 rfl rfl ?_
  refine FW.seq ?_
  refine FW.region ?_
  refine U rfl rfl (V (x_asgV (v := .pointer none) rfl) ?_)
  refine U rfl rfl (V (x_asgV (v := .int .i64 0) rfl) ?_)
  refine FW.seq ?_
  refine FW.seq ?_
  refine FW.region ?_
  refine U rfl rfl (V (x_movV (v := .string x0) rfl) ?_)
  refine U rfl rfl (V (x_lens tstr9 rfl) ?_)
  refine U rfl rfl (V (x_bin rfl rfl rfl) ?_)
  by_cases cc1 : (x0.size : Int) > 100
  · rw [if_pos cc1] at H
    refine FW.condT rfl (deT cc1) ?_
    refine FW.seq ?_
    refine FW.region ?_
    refine U rfl rfl (V (x_asgV (v := .pointer none) rfl) ?_)
    refine U rfl rfl (V (x_asgV (v := .int .i64 4) rfl) ?_)
    refine FW.ret ?_
    obtain rfl := Option.some.inj H
    exact ⟨_, ⟨_, rfl, ⟨_, rfl, rfl⟩⟩, ⟨(.pointer none), I, hI, rfl, (PtR.nil _ _), S⟩⟩
  · rw [if_neg cc1] at H
    refine FW.condF rfl (deF cc1) ?_
    refine FW.skip ?_
    refine FW.seq ?_
    refine FW.region ?_
    refine U rfl rfl (V (x_movV (v := .string x0) rfl) ?_)
    obtain ⟨y2, hy3, H⟩ := obx H
    refine U rfl rfl (cl fb16 (@regex_signs.ok k x0 _ _ _ _ hG S hy3) rfl ?_)
    rintro _ w ⟨vy2_0, J4, hJ5, rfl, hy2_0, S⟩
    have hI := hI.trans hJ5
    have hG := hG.mono hJ5
    refine U rfl rfl (V (x_movV (v := .tuple #[vy2_0, .bool y2.2]) rfl) ?_)
    refine U rfl rfl (V (x_ext rfl rfl) ?_)
    refine U rfl rfl (V (x_ext rfl rfl) ?_)
    refine U rfl rfl (V (x_asgV (v := vy2_0) rfl) ?_)
    refine U rfl rfl (V (x_asgV (v := .bool y2.2) rfl) ?_)
    refine FW.seq ?_
    refine FW.seq ?_
    refine FW.anew [(4, vy2_0), (5, .bool y2.2)] ⟨rfl, rfl, trivial⟩ fun σ => ?_
    refine FW.region ?_
    refine U rfl rfl (V (x_movV (v := .bool y2.2) rfl) ?_)
    refine U rfl rfl (V (x_not' rfl) ?_)
    by_cases cc6 : y2.2 = true
    · rw [if_pos cc6] at H
      refine FW.condF rfl (noF cc6) ?_
      refine FW.skip ?_
      refine FW.seq ?_
      refine FW.region ?_
      refine U rfl rfl (V (x_movV (v := vy2_0) rfl) ?_)
      refine U rfl rfl (V (x_bld tz44 tpl44 rfl (.one hy2_0.one PC.nil) rfl) ?_)
      refine U rfl rfl (o_boxA rfl S fun b7 w S => ?_)
      refine U rfl rfl (V (x_asgV (v := .pointer (some ⟨b7, 0, none⟩)) rfl) ?_)
      refine FW.seq ?_
      refine FW.region ?_
      refine U rfl rfl (V (x_movV (v := .pointer (some ⟨b7, 0, none⟩)) rfl) ?_)
      obtain ⟨y8, hy9, H⟩ := obx H
      refine U rfl rfl (cl fb17 (@regex_reader_choices.ok k (T_regex_reader.mk y2.1 false) _ _ _ _ _ _ hG S hy2_0 hy9) rfl ?_)
      rintro _ w ⟨y8_0v1, y8_0v2, y8_1v0, J10, hJ11, rfl, y8_0h1, y8_0h2, y8_1h0, S⟩
      have hI := hI.trans hJ11
      have hG := hG.mono hJ11
      refine U rfl rfl (o_all tz48 S fun b12 w S => ?_)
      refine U rfl rfl (o_stA tag48 S 0 rfl rfl rfl rfl (c1 rfl (c1 y8_0h1.one (c1 y8_0h2.one (c1 rfl c0)))) rfl fun w S => ?_)
      refine FW.seq ?_
      refine FW.seq ?_
      refine FW.anew [(6, .pointer (some ⟨b7, 0, none⟩)), (7, .pointer (some ⟨b12, 0, none⟩))] ⟨rfl, rfl, trivial⟩ fun σ => ?_
      refine FW.region ?_
      refine U rfl rfl (V (x_movV (v := .pointer (some ⟨b7, 0, none⟩)) rfl) ?_)
      obtain ⟨y13, hy14, H⟩ := obx H
      refine U rfl rfl (cl fb18 (@regex_reader_peek.ok k y8.2 _ _ _ _ _ _ hG (S.sel 3 [1, 0, 2] rfl) y8_1h0 hy14) rfl ?_)
      rintro _ w ⟨y13_1v0, J15, hJ16, rfl, y13_1h0, S⟩
      have y8_0h1 := y8_0h1.mono hJ16
      have y8_0h2 := y8_0h2.mono hJ16
      have hI := hI.trans hJ16
      have hG := hG.mono hJ16
      refine U rfl rfl (o_all tz51 S fun b17 w S => ?_)
      refine U rfl rfl (o_stA tag51 S 0 rfl rfl rfl rfl (c1 rfl (c1 rfl (c1 rfl c0))) rfl fun w S => ?_)
      refine FW.seq ?_
      refine FW.region ?_
      refine U rfl rfl (V (x_movV (v := .pointer (some ⟨b7, 0, none⟩)) rfl) ?_)
      refine U rfl rfl (V (x_nk rfl) ?_)
      refine U rfl rfl (V (x_fa tf44_1 rfl) ?_)
      refine U rfl rfl (V (x_ld tsc4 rfl (S.load 1 rfl 1 rfl)) ?_)
      refine U rfl rfl (V (x_movV (v := .bool y13.2.bad) rfl) ?_)
      by_cases cc18 : y13.2.bad = true
      · rw [if_pos cc18] at H
        refine OK.gf rfl rfl rfl cc18 ?_
        refine OK.gf rfl rfl rfl cc18 ?_
        refine U rfl rfl (V (x_pickTV (v := .bool true) rfl cc18 rfl) ?_)
        refine U rfl rfl (V (x_movV (v := .bool true) rfl) ?_)
        refine OK.gf rfl rfl rfl rfl ?_
        refine OK.gf rfl rfl rfl rfl ?_
        refine OK.gf rfl rfl rfl rfl ?_
        refine U rfl rfl (V (x_pickTV (v := .bool true) rfl rfl rfl) ?_)
        refine FW.condT rfl rfl ?_
        refine FW.seq ?_
        refine FW.anew [] trivial fun σ => ?_
        refine FW.region ?_
        refine U rfl rfl (V (x_asgV (v := .pointer none) rfl) ?_)
        refine U rfl rfl (V (x_asgV (v := .int .i64 14) rfl) ?_)
        refine FW.ret ?_
        obtain rfl := Option.some.inj H
        exact ⟨_, ⟨_, rfl, ⟨_, rfl, rfl⟩⟩, ⟨(.pointer none), J15, hI, rfl, (PtR.nil _ _), (S.sel 4 [] rfl)⟩⟩
      · rw [if_neg cc18] at H
        refine OK.gt rfl rfl rfl (vaF cc18) (V (x_fa tf51_2 rfl) ?_)
        refine OK.gt rfl rfl rfl (vaF cc18) (V (x_ld tsc4 rfl (S.load 0 rfl 2 rfl)) ?_)
        refine U rfl rfl (V (x_pickFV (v := .bool y13.1.digits) rfl (vaF cc18) rfl) ?_)
        refine U rfl rfl (V (x_movV (v := .bool y13.1.digits) rfl) ?_)
        by_cases cc19 : y13.1.digits = true
        · rw [if_pos cc19] at H
          refine OK.gf rfl rfl rfl cc19 ?_
          refine OK.gf rfl rfl rfl cc19 ?_
          refine OK.gf rfl rfl rfl cc19 ?_
          refine U rfl rfl (V (x_pickTV (v := .bool true) rfl cc19 rfl) ?_)
          refine FW.condT rfl rfl ?_
          refine FW.seq ?_
          refine FW.anew [] trivial fun σ => ?_
          refine FW.region ?_
          refine U rfl rfl (V (x_asgV (v := .pointer none) rfl) ?_)
          refine U rfl rfl (V (x_asgV (v := .int .i64 14) rfl) ?_)
          refine FW.ret ?_
          obtain rfl := Option.some.inj H
          exact ⟨_, ⟨_, rfl, ⟨_, rfl, rfl⟩⟩, ⟨(.pointer none), J15, hI, rfl, (PtR.nil _ _), (S.sel 4 [] rfl)⟩⟩
        · rw [if_neg cc19] at H
          refine OK.gt rfl rfl rfl (vaF cc19) (V (x_fa tf51_0 rfl) ?_)
          refine OK.gt rfl rfl rfl (vaF cc19) (V (x_ld tsc21 rfl (S.load 0 rfl 0 rfl)) ?_)
          refine OK.gt rfl rfl rfl (vaF cc19) (V (x_bin rfl rfl rfl) ?_)
          refine U rfl rfl (V (x_pickFV (v := .bool (y13.1.c != 0)) rfl (vaF cc19) rfl) ?_)
          by_cases cc20 : y13.1.c = 0
          · rw [if_pos cc20] at H
            refine FW.condF rfl (neF cc20) ?_
            refine FW.skip ?_
            refine FW.seq ?_
            refine FW.anew [(7, .pointer (some ⟨b12, 0, none⟩))] ⟨rfl, trivial⟩ fun σ => ?_
            refine FW.region ?_
            refine U rfl rfl (V (x_ldA tag48 rfl (S.loadW 2 rfl) rfl) ?_)
            refine U rfl rfl (V (x_bld tz55 tpl55 rfl (.agg PC.nil) rfl) ?_)
            refine U rfl rfl (o_boxA rfl S fun b21 w S => ?_)
            refine U rfl rfl (V (x_asgV (v := .pointer (some ⟨b21, 0, none⟩)) rfl) ?_)
            refine FW.seq ?_
            refine FW.region ?_
            refine U rfl rfl (V (x_movV (v := .pointer (some ⟨b21, 0, none⟩)) rfl) ?_)
            refine U rfl rfl (V (x_ldA tag48 rfl (S.loadW 3 rfl) rfl) ?_)
            have S := S.nil_av 59 6
            obtain ⟨y23, hy24, H⟩ := obx H
            refine U rfl rfl (cl fb19 (@regex_Expr_compile.ok k (T_regex_Expr.mk y8.1 []) y8.1 _ _ _ _ _ _ _ _ _ _ _ hG (S.sel 6 [1, 0, 2, 3, 4, 5] rfl) y8_0h1 y8_0h2 (Flat.nil' _ _) y8_0h1 y8_0h2 hy24) rfl ?_)
            rintro _ w ⟨y23_0v1, y23_0v2, y23_0v4, cy23_0_4, J25, hJ26, rfl, y23_0h1, y23_0h2, y23_0h4, S⟩
            have y8_0h1 := y8_0h1.mono hJ26
            have y8_0h2 := y8_0h2.mono hJ26
            have y13_1h0 := y13_1h0.mono hJ26
            have hI := hI.trans hJ26
            have hG := hG.mono hJ26
            refine FW.seq ?_
            refine FW.anew [(9, .pointer (some ⟨b21, 0, none⟩))] ⟨rfl, trivial⟩ fun σ => ?_
            refine FW.region ?_
            refine U rfl rfl (V (x_movV (v := .pointer (some ⟨b21, 0, none⟩)) rfl) ?_)
            refine U rfl rfl (V (x_movV (v := .pointer (some ⟨b21, 0, none⟩)) rfl) ?_)
            refine U rfl rfl (V (x_nk rfl) ?_)
            refine U rfl rfl (V (x_fa tf55_1 rfl) ?_)
            refine U rfl rfl (V (x_ld tsc53 rfl (S.load 0 rfl 4 rfl)) ?_)
            refine U rfl rfl (V (x_bld tz59 tpl59 rfl (.one rfl PC.nil) rfl) ?_)
            refine U rfl rfl (o_bsl tsl53 tz59 rfl rfl rfl rfl (.agg PC.nil) rfl S fun b27 w S => ?_)
            obtain ⟨J28, hJ30, S, h29⟩ := S.freeze (r := R_regex_step) (l := [(T_regex_step.mk 4 [] false false (0, 0))]) 0 rfl ⟨[.int .i64 4, (.slice none 0 0), .bool false, .bool false, .int .i64 0, .int .i64 0], _, rfl, ⟨(.slice none 0 0), rfl, (SlR.nil _ _)⟩, rfl⟩ rfl rfl
            have y23_0h1 := y23_0h1.mono hJ30
            have y23_0h2 := y23_0h2.mono hJ30
            have y23_0h4 := y23_0h4.mono hJ30
            have y13_1h0 := y13_1h0.mono hJ30
            have y8_0h1 := y8_0h1.mono hJ30
            have y8_0h2 := y8_0h2.mono hJ30
            have hI := hI.trans hJ30
            have hG := hG.mono hJ30
            obtain ⟨l31, h33, H⟩ := obx H
            refine U rfl rfl (o_appV (r := R_regex_step) tsl53 rfl tz59 rfl rfl S 2 rfl rfl y23_0h4 h29 h33 fun v32 w a35 S h34 => ?_)
            refine U rfl rfl (V (x_nk rfl) ?_)
            refine U rfl rfl (V (x_fa tf55_1 rfl) ?_)
            refine U rfl rfl (o_st tone53 S 1 rfl rfl rfl (av_one S 2 rfl) fun w S => ?_)
            refine FW.seq ?_
            refine FW.anew [(9, .pointer (some ⟨b21, 0, none⟩))] ⟨rfl, trivial⟩ fun σ => ?_
            refine FW.region ?_
            refine U rfl rfl (V (x_movV (v := .pointer (some ⟨b21, 0, none⟩)) rfl) ?_)
            refine U rfl rfl (V (x_asgV (v := .pointer (some ⟨b21, 0, none⟩)) rfl) ?_)
            refine U rfl rfl (V (x_asgV (v := .int .i64 0) rfl) ?_)
            refine FW.ret ?_
            obtain ⟨J36, hJ38, S, h37⟩ := S.freeze (r := R_regex_step) (l := l31) 2 rfl h34 rfl rfl
            have y23_0h1 := y23_0h1.mono hJ38
            have y23_0h2 := y23_0h2.mono hJ38
            have y13_1h0 := y13_1h0.mono hJ38
            have y8_0h1 := y8_0h1.mono hJ38
            have y8_0h2 := y8_0h2.mono hJ38
            have hI := hI.trans hJ38
            have hG := hG.mono hJ38
            obtain ⟨J39, hJ41, S, h40⟩ := S.freezeB (r := R_regex_Expr) (x := (T_regex_Expr.mk y23.top l31)) 1 rfl ⟨y23_0v1, y23_0v2, v32, rfl, y23_0h1, y23_0h2, h37⟩
            have y13_1h0 := y13_1h0.mono hJ41
            have y8_0h1 := y8_0h1.mono hJ41
            have y8_0h2 := y8_0h2.mono hJ41
            have hI := hI.trans hJ41
            have hG := hG.mono hJ41
            obtain rfl := Option.some.inj H
            exact ⟨_, ⟨_, rfl, ⟨_, rfl, rfl⟩⟩, ⟨(.pointer (some ⟨b21, 0, none⟩)), J39, hI, rfl, h40, (S.sel 6 [] rfl)⟩⟩
          · rw [if_neg cc20] at H
            refine FW.condT rfl (neT cc20) ?_
            refine FW.seq ?_
            refine FW.anew [] trivial fun σ => ?_
            refine FW.region ?_
            refine U rfl rfl (V (x_asgV (v := .pointer none) rfl) ?_)
            refine U rfl rfl (V (x_asgV (v := .int .i64 14) rfl) ?_)
            refine FW.ret ?_
            obtain rfl := Option.some.inj H
            exact ⟨_, ⟨_, rfl, ⟨_, rfl, rfl⟩⟩, ⟨(.pointer none), J15, hI, rfl, (PtR.nil _ _), (S.sel 4 [] rfl)⟩⟩
    · rw [if_neg cc6] at H
      refine FW.condT rfl (noT (vaF cc6)) ?_
      refine FW.seq ?_
      refine FW.region ?_
      refine U rfl rfl (V (x_asgV (v := .pointer none) rfl) ?_)
      refine U rfl rfl (V (x_asgV (v := .int .i64 14) rfl) ?_)
      refine FW.ret ?_
      obtain rfl := Option.some.inj H
      exact ⟨_, ⟨_, rfl, ⟨_, rfl, rfl⟩⟩, ⟨(.pointer none), J4, hI, rfl, (PtR.nil _ _), (S.sel 1 [] rfl)⟩⟩

def speculumlaw11_awake.f (k : Nat) : Option Bool := ((regex_Parse.f k (⟨#[49, 32, 40, 50, 124, 51, 41, 42, 36]⟩)).bind fun y1 => (if y1.2 = 0 then ((regex_Expr_Match.f k y1.1 [9, 1, 2, 3]).bind fun y10 => (if y10 = true then ((regex_Expr_Match.f k y1.1 [1, 4]).bind fun y17 => (if y17 = true then (some false) else ((regex_Expr_Text.f k y1.1).bind fun y20 => (some (decide (y20 = (⟨#[49, 32, 40, 50, 124, 51, 41, 42, 32, 36]⟩))))))) else (some false))) else (some false)))
abbrev speculumlaw11_awake.C (k : Nat) : Prop := ∀ {F : List It} {I : IMem} {w : World} {r : Bool}, Glob I → Own I w (F) → speculumlaw11_awake.f k = some r →
    Calls Tryd.prog 7 #[] w fun e w' => ∃ v, e = .returned v ∧ v = .bool r ∧ Own I w' (F)
theorem speculumlaw11_awake.ok (k : Nat) : speculumlaw11_awake.C k := by
  intro F I w r hG S H
  have hI := IMem.le.refl I
  rw [speculumlaw11_awake.f] at H
  refine Calls.ofFW (args := []) Tryd.func7 rfl rfl ?_
  refine FW.seq ?_
  refine FW.region ?_
  refine U rfl rfl (V (x_asgV (v := .bool false) rfl) ?_)
  refine FW.seq ?_
  refine FW.region ?_
  obtain ⟨y1, hy2, H⟩ := obx H
  refine U rfl rfl (cl fb8 (@regex_Parse.ok k (⟨#[49, 32, 40, 50, 124, 51, 41, 42, 36]⟩) _ _ _ _ hG S hy2) rfl ?_)
  rintro _ w ⟨vy1_0, J3, hJ4, rfl, hy1_0, S⟩
  have hI := hI.trans hJ4
  have hG := hG.mono hJ4
  refine U rfl rfl (V (x_movV (v := .tuple #[vy1_0, .int .i64 y1.2]) rfl) ?_)
  refine U rfl rfl (V (x_ext rfl rfl) ?_)
  refine U rfl rfl (V (x_ext rfl rfl) ?_)
  refine U rfl rfl (V (x_asgV (v := vy1_0) rfl) ?_)
  refine U rfl rfl (V (x_asgV (v := .int .i64 y1.2) rfl) ?_)
  refine FW.seq ?_
  refine FW.anew [(1, vy1_0), (2, .int .i64 y1.2)] ⟨rfl, rfl, trivial⟩ fun σ => ?_
  refine FW.region ?_
  refine U rfl rfl (V (x_movV (v := .int .i64 y1.2) rfl) ?_)
  refine U rfl rfl (V (x_bin rfl rfl rfl) ?_)
  refine U rfl rfl (V (x_movV (v := .bool (y1.2 == 0)) rfl) ?_)
  by_cases cc5 : y1.2 = 0
  · rw [if_pos cc5] at H
    refine OK.gt rfl rfl rfl (eqT cc5) (V (x_movV (v := vy1_0) rfl) ?_)
    refine OK.gt rfl rfl rfl (eqT cc5) (o_bsl tsl22 tz38 rfl rfl rfl rfl (.one rfl (.one rfl (.one rfl (.one rfl PC.nil)))) rfl S fun b6 w S => ?_)
    obtain ⟨J7, hJ9, S, h8⟩ := S.freeze (r := (tInt' .u32)) (l := [9, 1, 2, 3]) 0 rfl ⟨[.int .u32 9], _, rfl, rfl, ⟨[.int .u32 1], _, rfl, rfl, ⟨[.int .u32 2], _, rfl, rfl, ⟨[.int .u32 3], _, rfl, rfl, rfl⟩⟩⟩⟩ rfl rfl
    have hy1_0 := hy1_0.mono hJ9
    have hI := hI.trans hJ9
    have hG := hG.mono hJ9
    obtain ⟨y10, hy11, H⟩ := obx H
    refine OK.gt rfl rfl rfl (eqT cc5) (cl fb10 (@regex_Expr_Match.ok k y1.1 [9, 1, 2, 3] _ _ _ _ _ _ hG S hy1_0 h8 hy11) rfl ?_)
    rintro _ w ⟨rfl, S⟩
    refine U rfl rfl (V (x_pickTV (v := .bool y10) rfl (eqT cc5) rfl) ?_)
    refine U rfl rfl (V (x_movV (v := .bool y10) rfl) ?_)
    by_cases cc12 : y10 = true
    · rw [if_pos cc12] at H
      refine OK.gt rfl rfl rfl cc12 (V (x_movV (v := vy1_0) rfl) ?_)
      refine OK.gt rfl rfl rfl cc12 (o_bsl tsl22 tz38 rfl rfl rfl rfl (.one rfl (.one rfl PC.nil)) rfl S fun b13 w S => ?_)
      obtain ⟨J14, hJ16, S, h15⟩ := S.freeze (r := (tInt' .u32)) (l := [1, 4]) 0 rfl ⟨[.int .u32 1], _, rfl, rfl, ⟨[.int .u32 4], _, rfl, rfl, rfl⟩⟩ rfl rfl
      have hy1_0 := hy1_0.mono hJ16
      have h8 := h8.mono hJ16
      have hI := hI.trans hJ16
      have hG := hG.mono hJ16
      obtain ⟨y17, hy18, H⟩ := obx H
      refine OK.gt rfl rfl rfl cc12 (cl fb10 (@regex_Expr_Match.ok k y1.1 [1, 4] _ _ _ _ _ _ hG S hy1_0 h15 hy18) rfl ?_)
      rintro _ w ⟨rfl, S⟩
      refine OK.gt rfl rfl rfl cc12 (V (x_not' rfl) ?_)
      refine U rfl rfl (V (x_pickTV (v := .bool (!y17)) rfl cc12 rfl) ?_)
      refine U rfl rfl (V (x_movV (v := .bool (!y17)) rfl) ?_)
      by_cases cc19 : y17 = true
      · rw [if_pos cc19] at H
        refine OK.gf rfl rfl rfl (noF cc19) ?_
        refine OK.gf rfl rfl rfl (noF cc19) ?_
        refine OK.gf rfl rfl rfl (noF cc19) ?_
        refine U rfl rfl (V (x_pickFV (v := .bool false) rfl (noF cc19) rfl) ?_)
        refine U rfl rfl (V (x_asgV (v := .bool false) rfl) ?_)
        refine FW.ret ?_
        obtain rfl := Option.some.inj H
        exact ⟨_, ⟨_, rfl, rfl⟩, ⟨rfl, ((S.sel 2 [] rfl).weaken hI)⟩⟩
      · rw [if_neg cc19] at H
        refine OK.gt rfl rfl rfl (noT (vaF cc19)) (V (x_movV (v := vy1_0) rfl) ?_)
        obtain ⟨y20, hy21, H⟩ := obx H
        refine OK.gt rfl rfl rfl (noT (vaF cc19)) (cl fb15 (@regex_Expr_Text.ok k y1.1 _ _ _ _ _ hG S hy1_0 hy21) rfl ?_)
        rintro _ w ⟨rfl, S⟩
        refine OK.gt rfl rfl rfl (noT (vaF cc19)) (V (x_seq rfl rfl) ?_)
        refine U rfl rfl (V (x_pickTV (v := .bool (decide (y20 = (⟨#[49, 32, 40, 50, 124, 51, 41, 42, 32, 36]⟩)))) rfl (noT (vaF cc19)) rfl) ?_)
        refine U rfl rfl (V (x_asgV (v := .bool (decide (y20 = (⟨#[49, 32, 40, 50, 124, 51, 41, 42, 32, 36]⟩)))) rfl) ?_)
        refine FW.ret ?_
        obtain rfl := Option.some.inj H
        exact ⟨_, ⟨_, rfl, rfl⟩, ⟨rfl, ((S.sel 2 [] rfl).weaken hI)⟩⟩
    · rw [if_neg cc12] at H
      refine OK.gf rfl rfl rfl (vaF cc12) ?_
      refine OK.gf rfl rfl rfl (vaF cc12) ?_
      refine OK.gf rfl rfl rfl (vaF cc12) ?_
      refine OK.gf rfl rfl rfl (vaF cc12) ?_
      refine U rfl rfl (V (x_pickFV (v := .bool false) rfl (vaF cc12) rfl) ?_)
      refine U rfl rfl (V (x_movV (v := .bool false) rfl) ?_)
      refine OK.gf rfl rfl rfl rfl ?_
      refine OK.gf rfl rfl rfl rfl ?_
      refine OK.gf rfl rfl rfl rfl ?_
      refine U rfl rfl (V (x_pickFV (v := .bool false) rfl rfl rfl) ?_)
      refine U rfl rfl (V (x_asgV (v := .bool false) rfl) ?_)
      refine FW.ret ?_
      obtain rfl := Option.some.inj H
      exact ⟨_, ⟨_, rfl, rfl⟩, ⟨rfl, ((S.sel 1 [] rfl).weaken hI)⟩⟩
  · rw [if_neg cc5] at H
    refine OK.gf rfl rfl rfl (eqF cc5) ?_
    refine OK.gf rfl rfl rfl (eqF cc5) ?_
    refine OK.gf rfl rfl rfl (eqF cc5) ?_
    refine U rfl rfl (V (x_pickFV (v := .bool false) rfl (eqF cc5) rfl) ?_)
    refine U rfl rfl (V (x_movV (v := .bool false) rfl) ?_)
    refine OK.gf rfl rfl rfl rfl ?_
    refine OK.gf rfl rfl rfl rfl ?_
    refine OK.gf rfl rfl rfl rfl ?_
    refine OK.gf rfl rfl rfl rfl ?_
    refine U rfl rfl (V (x_pickFV (v := .bool false) rfl rfl rfl) ?_)
    refine U rfl rfl (V (x_movV (v := .bool false) rfl) ?_)
    refine OK.gf rfl rfl rfl rfl ?_
    refine OK.gf rfl rfl rfl rfl ?_
    refine OK.gf rfl rfl rfl rfl ?_
    refine U rfl rfl (V (x_pickFV (v := .bool false) rfl rfl rfl) ?_)
    refine U rfl rfl (V (x_asgV (v := .bool false) rfl) ?_)
    refine FW.ret ?_
    obtain rfl := Option.some.inj H
    exact ⟨_, ⟨_, rfl, rfl⟩, ⟨rfl, (S.weaken hI)⟩⟩

def speculumlaw11_RegexNobody.f (k : Nat) (x0 : (List Int)) : Option Bool := ((regex_Expr_Match.f k none x0).bind fun y1 => (if y1 = true then (some false) else ((regex_Expr_Text.f k none).bind fun y4 => (if y4 = (⟨#[]⟩) then ((regex_Expr_Size.f k none).bind fun y7 => (if y7 = 0 then ((speculumlaw11_awake.f k).bind fun y10 => (some y10)) else (some false))) else (some false)))))
abbrev speculumlaw11_RegexNobody.C (k : Nat) : Prop := ∀ {x0 : (List Int)} {vx0 : Value} {F : List It} {I : IMem} {w : World} {r : Bool}, Glob I → Own I w (F) → SlR (tInt' .u32) I vx0 x0 → speculumlaw11_RegexNobody.f k x0 = some r →
    Calls Tryd.prog 6 #[vx0] w fun e w' => ∃ v, e = .returned v ∧ v = .bool r ∧ Own I w' (F)
theorem speculumlaw11_RegexNobody.ok (k : Nat) : speculumlaw11_RegexNobody.C k := by
  intro x0 vx0 F I w r hG S hx0 H
  have hI := IMem.le.refl I
  rw [speculumlaw11_RegexNobody.f] at H
  refine Calls.ofFW (args := [vx0]) Tryd.func6 rfl rfl ?_
  refine FW.seq ?_
  refine FW.region ?_
  refine U rfl rfl (V (x_asgV (v := .bool false) rfl) ?_)
  refine FW.seq ?_
  refine FW.region ?_
  refine U rfl rfl (V (x_asgV (v := .pointer none) rfl) ?_)
  refine FW.seq ?_
  refine FW.region ?_
  refine U rfl rfl (V (x_movV (v := .pointer none) rfl) ?_)
  refine U rfl rfl (V (x_movV (v := vx0) rfl) ?_)
  obtain ⟨y1, hy2, H⟩ := obx H
  refine U rfl rfl (cl fb10 (@regex_Expr_Match.ok k none x0 _ _ _ _ _ _ hG S (PtR.nil _ _) hx0 hy2) rfl ?_)
  rintro _ w ⟨rfl, S⟩
  refine U rfl rfl (V (x_not' rfl) ?_)
  refine U rfl rfl (V (x_movV (v := .bool (!y1)) rfl) ?_)
  by_cases cc3 : y1 = true
  · rw [if_pos cc3] at H
    refine OK.gf rfl rfl rfl (noF cc3) ?_
    refine OK.gf rfl rfl rfl (noF cc3) ?_
    refine OK.gf rfl rfl rfl (noF cc3) ?_
    refine U rfl rfl (V (x_pickFV (v := .bool false) rfl (noF cc3) rfl) ?_)
    refine U rfl rfl (V (x_movV (v := .bool false) rfl) ?_)
    refine OK.gf rfl rfl rfl rfl ?_
    refine OK.gf rfl rfl rfl rfl ?_
    refine OK.gf rfl rfl rfl rfl ?_
    refine U rfl rfl (V (x_pickFV (v := .bool false) rfl rfl rfl) ?_)
    refine U rfl rfl (V (x_movV (v := .bool false) rfl) ?_)
    refine OK.gf rfl rfl rfl rfl ?_
    refine U rfl rfl (V (x_pickFV (v := .bool false) rfl rfl rfl) ?_)
    refine U rfl rfl (V (x_asgV (v := .bool false) rfl) ?_)
    refine FW.ret ?_
    obtain rfl := Option.some.inj H
    exact ⟨_, ⟨_, rfl, rfl⟩, ⟨rfl, (S.weaken hI)⟩⟩
  · rw [if_neg cc3] at H
    refine OK.gt rfl rfl rfl (noT (vaF cc3)) (V (x_movV (v := .pointer none) rfl) ?_)
    obtain ⟨y4, hy5, H⟩ := obx H
    refine OK.gt rfl rfl rfl (noT (vaF cc3)) (cl fb15 (@regex_Expr_Text.ok k none _ _ _ _ _ hG S (PtR.nil _ _) hy5) rfl ?_)
    rintro _ w ⟨rfl, S⟩
    refine OK.gt rfl rfl rfl (noT (vaF cc3)) (V (x_seq rfl rfl) ?_)
    refine U rfl rfl (V (x_pickTV (v := .bool (decide (y4 = (⟨#[]⟩)))) rfl (noT (vaF cc3)) rfl) ?_)
    refine U rfl rfl (V (x_movV (v := .bool (decide (y4 = (⟨#[]⟩)))) rfl) ?_)
    by_cases cc6 : y4 = (⟨#[]⟩)
    · rw [if_pos cc6] at H
      refine OK.gt rfl rfl rfl (deT cc6) (V (x_movV (v := .pointer none) rfl) ?_)
      obtain ⟨y7, hy8, H⟩ := obx H
      refine OK.gt rfl rfl rfl (deT cc6) (cl fb14 (@regex_Expr_Size.ok k none _ _ _ _ _ hG S (PtR.nil _ _) hy8) rfl ?_)
      rintro _ w ⟨rfl, S⟩
      refine OK.gt rfl rfl rfl (deT cc6) (V (x_bin rfl rfl rfl) ?_)
      refine U rfl rfl (V (x_pickTV (v := .bool (y7 == 0)) rfl (deT cc6) rfl) ?_)
      refine U rfl rfl (V (x_movV (v := .bool (y7 == 0)) rfl) ?_)
      by_cases cc9 : y7 = 0
      · rw [if_pos cc9] at H
        obtain ⟨y10, hy11, H⟩ := obx H
        refine OK.gt rfl rfl rfl (eqT cc9) (cl fb7 (@speculumlaw11_awake.ok k _ _ _ _ hG S hy11) rfl ?_)
        rintro _ w ⟨rfl, S⟩
        refine U rfl rfl (V (x_pickTV (v := .bool y10) rfl (eqT cc9) rfl) ?_)
        refine U rfl rfl (V (x_asgV (v := .bool y10) rfl) ?_)
        refine FW.ret ?_
        obtain rfl := Option.some.inj H
        exact ⟨_, ⟨_, rfl, rfl⟩, ⟨rfl, (S.weaken hI)⟩⟩
      · rw [if_neg cc9] at H
        refine OK.gf rfl rfl rfl (eqF cc9) ?_
        refine U rfl rfl (V (x_pickFV (v := .bool false) rfl (eqF cc9) rfl) ?_)
        refine U rfl rfl (V (x_asgV (v := .bool false) rfl) ?_)
        refine FW.ret ?_
        obtain rfl := Option.some.inj H
        exact ⟨_, ⟨_, rfl, rfl⟩, ⟨rfl, (S.weaken hI)⟩⟩
    · rw [if_neg cc6] at H
      refine OK.gf rfl rfl rfl (deF cc6) ?_
      refine OK.gf rfl rfl rfl (deF cc6) ?_
      refine OK.gf rfl rfl rfl (deF cc6) ?_
      refine U rfl rfl (V (x_pickFV (v := .bool false) rfl (deF cc6) rfl) ?_)
      refine U rfl rfl (V (x_movV (v := .bool false) rfl) ?_)
      refine OK.gf rfl rfl rfl rfl ?_
      refine U rfl rfl (V (x_pickFV (v := .bool false) rfl rfl rfl) ?_)
      refine U rfl rfl (V (x_asgV (v := .bool false) rfl) ?_)
      refine FW.ret ?_
      obtain rfl := Option.some.inj H
      exact ⟨_, ⟨_, rfl, rfl⟩, ⟨rfl, (S.weaken hI)⟩⟩

def speculumlaw11_RegexTexts.f (k : Nat) (x0 : ByteArray) (x1 : (List Int)) : Option Bool := (if (x0.size : Int) > 200 then ((speculumlaw11_awake.f k).bind fun y2 => (some y2)) else (if (x1.length : Int) > 40 then ((speculumlaw11_awake.f k).bind fun y5 => (some y5)) else ((regex_Parse.f k x0).bind fun y7 => (if y7.2 = 0 then (if y7.1.isNone = true then ((speculumlaw11_awake.f k).bind fun y13 => (some y13)) else ((regex_Expr_Size.f k y7.1).bind fun y15 => (if y15 > 100 then ((speculumlaw11_awake.f k).bind fun y18 => (some y18)) else ((regex_Expr_Text.f k y7.1).bind fun y20 => ((regex_Parse.f k y20).bind fun y22 => (if y22.2 = 0 then ((regex_Expr_Text.f k y22.1).bind fun y27 => ((regex_Expr_Text.f k y7.1).bind fun y29 => (if y27 = y29 then ((regex_Expr_Match.f k y22.1 x1).bind fun y32 => ((regex_Expr_Match.f k y7.1 x1).bind fun y34 => (if y32 = y34 then ((speculumlaw11_awake.f k).bind fun y37 => (some y37)) else (some false)))) else (some false)))) else (some false))))))) else ((speculumlaw11_awake.f k).bind fun y39 => (some y39))))))
abbrev speculumlaw11_RegexTexts.C (k : Nat) : Prop := ∀ {x0 : ByteArray} {x1 : (List Int)} {vx1 : Value} {F : List It} {I : IMem} {w : World} {r : Bool}, Glob I → Own I w (F) → SlR (tInt' .u32) I vx1 x1 → speculumlaw11_RegexTexts.f k x0 x1 = some r →
    Calls Tryd.prog 5 #[.string x0, vx1] w fun e w' => ∃ v, e = .returned v ∧ v = .bool r ∧ Own I w' (F)
theorem speculumlaw11_RegexTexts.ok (k : Nat) : speculumlaw11_RegexTexts.C k := by
  intro x0 x1 vx1 F I w r hG S hx1 H
  have hI := IMem.le.refl I
  rw [speculumlaw11_RegexTexts.f] at H
  refine Calls.ofFW (args := [.string x0, vx1]) Tryd.func5 rfl rfl ?_
  refine FW.seq ?_
  refine FW.region ?_
  refine U rfl rfl (V (x_asgV (v := .bool false) rfl) ?_)
  refine FW.seq ?_
  refine FW.seq ?_
  refine FW.region ?_
  refine U rfl rfl (V (x_movV (v := .string x0) rfl) ?_)
  refine U rfl rfl (V (x_lens tstr9 rfl) ?_)
  refine U rfl rfl (V (x_bin rfl rfl rfl) ?_)
  refine U rfl rfl (V (x_movV (v := .bool (decide ((x0.size : Int) > 200))) rfl) ?_)
  by_cases cc1 : (x0.size : Int) > 200
  · rw [if_pos cc1] at H
    refine OK.gf rfl rfl rfl (deT cc1) ?_
    refine OK.gf rfl rfl rfl (deT cc1) ?_
    refine OK.gf rfl rfl rfl (deT cc1) ?_
    refine U rfl rfl (V (x_pickTV (v := .bool true) rfl (deT cc1) rfl) ?_)
    refine FW.condT rfl rfl ?_
    refine FW.seq ?_
    refine FW.region ?_
    obtain ⟨y2, hy3, H⟩ := obx H
    refine U rfl rfl (cl fb7 (@speculumlaw11_awake.ok k _ _ _ _ hG S hy3) rfl ?_)
    rintro _ w ⟨rfl, S⟩
    refine U rfl rfl (V (x_asgV (v := .bool y2) rfl) ?_)
    refine FW.ret ?_
    obtain rfl := Option.some.inj H
    exact ⟨_, ⟨_, rfl, rfl⟩, ⟨rfl, (S.weaken hI)⟩⟩
  · rw [if_neg cc1] at H
    refine OK.gt rfl rfl rfl (deF cc1) (V (x_movV (v := vx1) rfl) ?_)
    refine OK.gt rfl rfl rfl (deF cc1) (V (x_lenD (r := (tInt' .u32)) tsl22 hx1) ?_)
    refine OK.gt rfl rfl rfl (deF cc1) (V (x_bin rfl rfl rfl) ?_)
    refine U rfl rfl (V (x_pickFV (v := .bool (decide ((x1.length : Int) > 40))) rfl (deF cc1) rfl) ?_)
    by_cases cc4 : (x1.length : Int) > 40
    · rw [if_pos cc4] at H
      refine FW.condT rfl (deT cc4) ?_
      refine FW.seq ?_
      refine FW.anew [] trivial fun σ => ?_
      refine FW.region ?_
      obtain ⟨y5, hy6, H⟩ := obx H
      refine U rfl rfl (cl fb7 (@speculumlaw11_awake.ok k _ _ _ _ hG S hy6) rfl ?_)
      rintro _ w ⟨rfl, S⟩
      refine U rfl rfl (V (x_asgV (v := .bool y5) rfl) ?_)
      refine FW.ret ?_
      obtain rfl := Option.some.inj H
      exact ⟨_, ⟨_, rfl, rfl⟩, ⟨rfl, (S.weaken hI)⟩⟩
    · rw [if_neg cc4] at H
      refine FW.condF rfl (deF cc4) ?_
      refine FW.skip ?_
      refine FW.seq ?_
      refine FW.anew [(0, .string x0), (1, vx1)] ⟨rfl, rfl, trivial⟩ fun σ => ?_
      refine FW.region ?_
      refine U rfl rfl (V (x_movV (v := .string x0) rfl) ?_)
      obtain ⟨y7, hy8, H⟩ := obx H
      refine U rfl rfl (cl fb8 (@regex_Parse.ok k x0 _ _ _ _ hG S hy8) rfl ?_)
      rintro _ w ⟨vy7_0, J9, hJ10, rfl, hy7_0, S⟩
      have hx1 := hx1.mono hJ10
      have hI := hI.trans hJ10
      have hG := hG.mono hJ10
      refine U rfl rfl (V (x_movV (v := .tuple #[vy7_0, .int .i64 y7.2]) rfl) ?_)
      refine U rfl rfl (V (x_ext rfl rfl) ?_)
      refine U rfl rfl (V (x_ext rfl rfl) ?_)
      refine U rfl rfl (V (x_asgV (v := vy7_0) rfl) ?_)
      refine U rfl rfl (V (x_asgV (v := .int .i64 y7.2) rfl) ?_)
      refine FW.seq ?_
      refine FW.seq ?_
      refine FW.anew [(1, vx1), (5, vy7_0), (6, .int .i64 y7.2)] ⟨rfl, rfl, rfl, trivial⟩ fun σ => ?_
      refine FW.region ?_
      refine U rfl rfl (V (x_movV (v := .int .i64 y7.2) rfl) ?_)
      refine U rfl rfl (V (x_bin rfl rfl rfl) ?_)
      refine U rfl rfl (V (x_movV (v := .bool (y7.2 != 0)) rfl) ?_)
      by_cases cc11 : y7.2 = 0
      · rw [if_pos cc11] at H
        refine OK.gt rfl rfl rfl (neF cc11) (V (x_movV (v := vy7_0) rfl) ?_)
        refine OK.gt rfl rfl rfl (neF cc11) (V (x_onil (r := R_regex_Expr) tptr24 hy7_0 rfl) ?_)
        refine U rfl rfl (V (x_pickFV (v := .bool y7.1.isNone) rfl (neF cc11) rfl) ?_)
        refine U rfl rfl (V (x_movV (v := .bool y7.1.isNone) rfl) ?_)
        by_cases cc12 : y7.1.isNone = true
        · rw [if_pos cc12] at H
          refine OK.gf rfl rfl rfl cc12 ?_
          refine OK.gf rfl rfl rfl cc12 ?_
          refine OK.gf rfl rfl rfl cc12 ?_
          refine U rfl rfl (V (x_pickTV (v := .bool true) rfl cc12 rfl) ?_)
          refine FW.condT rfl rfl ?_
          refine FW.seq ?_
          refine FW.anew [] trivial fun σ => ?_
          refine FW.region ?_
          obtain ⟨y13, hy14, H⟩ := obx H
          refine U rfl rfl (cl fb7 (@speculumlaw11_awake.ok k _ _ _ _ hG S hy14) rfl ?_)
          rintro _ w ⟨rfl, S⟩
          refine U rfl rfl (V (x_asgV (v := .bool y13) rfl) ?_)
          refine FW.ret ?_
          obtain rfl := Option.some.inj H
          exact ⟨_, ⟨_, rfl, rfl⟩, ⟨rfl, (S.weaken hI)⟩⟩
        · rw [if_neg cc12] at H
          refine OK.gt rfl rfl rfl (vaF cc12) (V (x_movV (v := vy7_0) rfl) ?_)
          obtain ⟨y15, hy16, H⟩ := obx H
          refine OK.gt rfl rfl rfl (vaF cc12) (cl fb14 (@regex_Expr_Size.ok k y7.1 _ _ _ _ _ hG S hy7_0 hy16) rfl ?_)
          rintro _ w ⟨rfl, S⟩
          refine OK.gt rfl rfl rfl (vaF cc12) (V (x_bin rfl rfl rfl) ?_)
          refine U rfl rfl (V (x_pickFV (v := .bool (decide (y15 > 100))) rfl (vaF cc12) rfl) ?_)
          by_cases cc17 : y15 > 100
          · rw [if_pos cc17] at H
            refine FW.condT rfl (deT cc17) ?_
            refine FW.seq ?_
            refine FW.anew [] trivial fun σ => ?_
            refine FW.region ?_
            obtain ⟨y18, hy19, H⟩ := obx H
            refine U rfl rfl (cl fb7 (@speculumlaw11_awake.ok k _ _ _ _ hG S hy19) rfl ?_)
            rintro _ w ⟨rfl, S⟩
            refine U rfl rfl (V (x_asgV (v := .bool y18) rfl) ?_)
            refine FW.ret ?_
            obtain rfl := Option.some.inj H
            exact ⟨_, ⟨_, rfl, rfl⟩, ⟨rfl, (S.weaken hI)⟩⟩
          · rw [if_neg cc17] at H
            refine FW.condF rfl (deF cc17) ?_
            refine FW.skip ?_
            refine FW.seq ?_
            refine FW.anew [(1, vx1), (5, vy7_0)] ⟨rfl, rfl, trivial⟩ fun σ => ?_
            refine FW.region ?_
            refine U rfl rfl (V (x_movV (v := vy7_0) rfl) ?_)
            obtain ⟨y20, hy21, H⟩ := obx H
            refine U rfl rfl (cl fb15 (@regex_Expr_Text.ok k y7.1 _ _ _ _ _ hG S hy7_0 hy21) rfl ?_)
            rintro _ w ⟨rfl, S⟩
            obtain ⟨y22, hy23, H⟩ := obx H
            refine U rfl rfl (cl fb8 (@regex_Parse.ok k y20 _ _ _ _ hG S hy23) rfl ?_)
            rintro _ w ⟨vy22_0, J24, hJ25, rfl, hy22_0, S⟩
            have hx1 := hx1.mono hJ25
            have hy7_0 := hy7_0.mono hJ25
            have hI := hI.trans hJ25
            have hG := hG.mono hJ25
            refine U rfl rfl (V (x_movV (v := .tuple #[vy22_0, .int .i64 y22.2]) rfl) ?_)
            refine U rfl rfl (V (x_ext rfl rfl) ?_)
            refine U rfl rfl (V (x_ext rfl rfl) ?_)
            refine U rfl rfl (V (x_asgV (v := vy22_0) rfl) ?_)
            refine U rfl rfl (V (x_asgV (v := .int .i64 y22.2) rfl) ?_)
            refine FW.seq ?_
            refine FW.anew [(1, vx1), (5, vy7_0), (7, vy22_0), (8, .int .i64 y22.2)] ⟨rfl, rfl, rfl, rfl, trivial⟩ fun σ => ?_
            refine FW.region ?_
            refine U rfl rfl (V (x_movV (v := .int .i64 y22.2) rfl) ?_)
            refine U rfl rfl (V (x_bin rfl rfl rfl) ?_)
            refine U rfl rfl (V (x_movV (v := .bool (y22.2 == 0)) rfl) ?_)
            by_cases cc26 : y22.2 = 0
            · rw [if_pos cc26] at H
              refine OK.gt rfl rfl rfl (eqT cc26) (V (x_movV (v := vy22_0) rfl) ?_)
              obtain ⟨y27, hy28, H⟩ := obx H
              refine OK.gt rfl rfl rfl (eqT cc26) (cl fb15 (@regex_Expr_Text.ok k y22.1 _ _ _ _ _ hG S hy22_0 hy28) rfl ?_)
              rintro _ w ⟨rfl, S⟩
              refine OK.gt rfl rfl rfl (eqT cc26) (V (x_movV (v := vy7_0) rfl) ?_)
              obtain ⟨y29, hy30, H⟩ := obx H
              refine OK.gt rfl rfl rfl (eqT cc26) (cl fb15 (@regex_Expr_Text.ok k y7.1 _ _ _ _ _ hG S hy7_0 hy30) rfl ?_)
              rintro _ w ⟨rfl, S⟩
              refine OK.gt rfl rfl rfl (eqT cc26) (V (x_seq rfl rfl) ?_)
              refine U rfl rfl (V (x_pickTV (v := .bool (decide (y27 = y29))) rfl (eqT cc26) rfl) ?_)
              refine U rfl rfl (V (x_movV (v := .bool (decide (y27 = y29))) rfl) ?_)
              by_cases cc31 : y27 = y29
              · rw [if_pos cc31] at H
                refine OK.gt rfl rfl rfl (deT cc31) (V (x_movV (v := vy22_0) rfl) ?_)
                refine OK.gt rfl rfl rfl (deT cc31) (V (x_movV (v := vx1) rfl) ?_)
                obtain ⟨y32, hy33, H⟩ := obx H
                refine OK.gt rfl rfl rfl (deT cc31) (cl fb10 (@regex_Expr_Match.ok k y22.1 x1 _ _ _ _ _ _ hG S hy22_0 hx1 hy33) rfl ?_)
                rintro _ w ⟨rfl, S⟩
                refine OK.gt rfl rfl rfl (deT cc31) (V (x_movV (v := vy7_0) rfl) ?_)
                refine OK.gt rfl rfl rfl (deT cc31) (V (x_movV (v := vx1) rfl) ?_)
                obtain ⟨y34, hy35, H⟩ := obx H
                refine OK.gt rfl rfl rfl (deT cc31) (cl fb10 (@regex_Expr_Match.ok k y7.1 x1 _ _ _ _ _ _ hG S hy7_0 hx1 hy35) rfl ?_)
                rintro _ w ⟨rfl, S⟩
                refine OK.gt rfl rfl rfl (deT cc31) (V (x_beq tbool4 rfl rfl) ?_)
                refine U rfl rfl (V (x_pickTV (v := .bool (y32 == y34)) rfl (deT cc31) rfl) ?_)
                refine U rfl rfl (V (x_movV (v := .bool (y32 == y34)) rfl) ?_)
                by_cases cc36 : y32 = y34
                · rw [if_pos cc36] at H
                  obtain ⟨y37, hy38, H⟩ := obx H
                  refine OK.gt rfl rfl rfl (beT cc36) (cl fb7 (@speculumlaw11_awake.ok k _ _ _ _ hG S hy38) rfl ?_)
                  rintro _ w ⟨rfl, S⟩
                  refine U rfl rfl (V (x_pickTV (v := .bool y37) rfl (beT cc36) rfl) ?_)
                  refine U rfl rfl (V (x_asgV (v := .bool y37) rfl) ?_)
                  refine FW.ret ?_
                  obtain rfl := Option.some.inj H
                  exact ⟨_, ⟨_, rfl, rfl⟩, ⟨rfl, (S.weaken hI)⟩⟩
                · rw [if_neg cc36] at H
                  refine OK.gf rfl rfl rfl (beF cc36) ?_
                  refine U rfl rfl (V (x_pickFV (v := .bool false) rfl (beF cc36) rfl) ?_)
                  refine U rfl rfl (V (x_asgV (v := .bool false) rfl) ?_)
                  refine FW.ret ?_
                  obtain rfl := Option.some.inj H
                  exact ⟨_, ⟨_, rfl, rfl⟩, ⟨rfl, (S.weaken hI)⟩⟩
              · rw [if_neg cc31] at H
                refine OK.gf rfl rfl rfl (deF cc31) ?_
                refine OK.gf rfl rfl rfl (deF cc31) ?_
                refine OK.gf rfl rfl rfl (deF cc31) ?_
                refine OK.gf rfl rfl rfl (deF cc31) ?_
                refine OK.gf rfl rfl rfl (deF cc31) ?_
                refine OK.gf rfl rfl rfl (deF cc31) ?_
                refine OK.gf rfl rfl rfl (deF cc31) ?_
                refine U rfl rfl (V (x_pickFV (v := .bool false) rfl (deF cc31) rfl) ?_)
                refine U rfl rfl (V (x_movV (v := .bool false) rfl) ?_)
                refine OK.gf rfl rfl rfl rfl ?_
                refine U rfl rfl (V (x_pickFV (v := .bool false) rfl rfl rfl) ?_)
                refine U rfl rfl (V (x_asgV (v := .bool false) rfl) ?_)
                refine FW.ret ?_
                obtain rfl := Option.some.inj H
                exact ⟨_, ⟨_, rfl, rfl⟩, ⟨rfl, (S.weaken hI)⟩⟩
            · rw [if_neg cc26] at H
              refine OK.gf rfl rfl rfl (eqF cc26) ?_
              refine OK.gf rfl rfl rfl (eqF cc26) ?_
              refine OK.gf rfl rfl rfl (eqF cc26) ?_
              refine OK.gf rfl rfl rfl (eqF cc26) ?_
              refine OK.gf rfl rfl rfl (eqF cc26) ?_
              refine U rfl rfl (V (x_pickFV (v := .bool false) rfl (eqF cc26) rfl) ?_)
              refine U rfl rfl (V (x_movV (v := .bool false) rfl) ?_)
              refine OK.gf rfl rfl rfl rfl ?_
              refine OK.gf rfl rfl rfl rfl ?_
              refine OK.gf rfl rfl rfl rfl ?_
              refine OK.gf rfl rfl rfl rfl ?_
              refine OK.gf rfl rfl rfl rfl ?_
              refine OK.gf rfl rfl rfl rfl ?_
              refine OK.gf rfl rfl rfl rfl ?_
              refine U rfl rfl (V (x_pickFV (v := .bool false) rfl rfl rfl) ?_)
              refine U rfl rfl (V (x_movV (v := .bool false) rfl) ?_)
              refine OK.gf rfl rfl rfl rfl ?_
              refine U rfl rfl (V (x_pickFV (v := .bool false) rfl rfl rfl) ?_)
              refine U rfl rfl (V (x_asgV (v := .bool false) rfl) ?_)
              refine FW.ret ?_
              obtain rfl := Option.some.inj H
              exact ⟨_, ⟨_, rfl, rfl⟩, ⟨rfl, (S.weaken hI)⟩⟩
      · rw [if_neg cc11] at H
        refine OK.gf rfl rfl rfl (neT cc11) ?_
        refine OK.gf rfl rfl rfl (neT cc11) ?_
        refine U rfl rfl (V (x_pickTV (v := .bool true) rfl (neT cc11) rfl) ?_)
        refine U rfl rfl (V (x_movV (v := .bool true) rfl) ?_)
        refine OK.gf rfl rfl rfl rfl ?_
        refine OK.gf rfl rfl rfl rfl ?_
        refine OK.gf rfl rfl rfl rfl ?_
        refine U rfl rfl (V (x_pickTV (v := .bool true) rfl rfl rfl) ?_)
        refine FW.condT rfl rfl ?_
        refine FW.seq ?_
        refine FW.region ?_
        obtain ⟨y39, hy40, H⟩ := obx H
        refine U rfl rfl (cl fb7 (@speculumlaw11_awake.ok k _ _ _ _ hG S hy40) rfl ?_)
        rintro _ w ⟨rfl, S⟩
        refine U rfl rfl (V (x_asgV (v := .bool y39) rfl) ?_)
        refine FW.ret ?_
        obtain rfl := Option.some.inj H
        exact ⟨_, ⟨_, rfl, rfl⟩, ⟨rfl, (S.weaken hI)⟩⟩

def speculumlaw11_hasEnds.l0 : Nat → ByteArray → Int → Option (Sum Bool Unit)
  | 0, _, _ => none
  | k + 1, x0, n2 => (if n2 < (x0.size : Int) then ((sat x0 n2).bind fun y11 => (if y11 = 94 then (some (.inl true)) else ((sat x0 n2).bind fun y14 => (if y14 = 36 then (some (.inl true)) else (speculumlaw11_hasEnds.l0 k x0 (i64 (n2 + 1))))))) else (some (.inr ())))
def speculumlaw11_hasEnds.f (k : Nat) (x0 : ByteArray) : Option Bool := (((speculumlaw11_hasEnds.l0 k x0 0) : Option (Sum Bool Unit)).bind fun o => match o with | .inl r => some r | .inr _ => (some false))
abbrev speculumlaw11_hasEnds.C (k : Nat) : Prop := ∀ {x0 : ByteArray} {F : List It} {I : IMem} {w : World} {r : Bool}, Glob I → Own I w (F) → speculumlaw11_hasEnds.f k x0 = some r →
    Calls Tryd.prog 12 #[.string x0] w fun e w' => ∃ v, e = .returned v ∧ v = .bool r ∧ Own I w' (F)
theorem speculumlaw11_hasEnds.ok (k : Nat) : speculumlaw11_hasEnds.C k := by
  intro x0 F I w r hG S H
  have hI := IMem.le.refl I
  rw [speculumlaw11_hasEnds.f] at H
  refine Calls.ofFW (args := [.string x0]) Tryd.func12 rfl rfl ?_
  refine FW.seq ?_
  refine FW.region ?_
  refine U rfl rfl (V (x_asgV (v := .bool false) rfl) ?_)
  refine FW.seq ?_
  refine FW.seq ?_
  refine FW.region ?_
  refine U rfl rfl (V (x_asgV (v := .int .i64 0) rfl) ?_)
  refine FW.block ?_
  obtain ⟨o5, hl7, HO6⟩ := obx H
  refine FW.cutX 0 (fun σ w => ∃ (J8 : IMem), (.inr ()) = o5 ∧ Has σ [] ∧ I.le J8 ∧ Own J8 w (F)) ?_ ?_
  ·
    refine FW.loop k (FL.ind (fun q σ w => ∃ (n2 : Int) (J1 : IMem), speculumlaw11_hasEnds.l0 q x0 n2 = some o5 ∧ q ≤ k ∧ Has σ [(0, .string x0), (3, .int .i64 n2)] ∧ I.le J1 ∧ Own J1 w (F)) ?_ ?_ k k _ _ (Nat.le_refl _) ⟨0, I, hl7, Nat.le_refl _, ⟨rfl, rfl, trivial⟩, (IMem.le.refl _), S⟩)
    · rintro σ w ⟨n2, J1, H, _⟩; cases H
    · rintro q3 σ w ⟨n2, J1, H, hq9, hσ, hL4, S⟩
      have hI := hI.trans hL4
      have hG := hG.mono hL4
      rw [hσ.eq]
      rw [speculumlaw11_hasEnds.l0] at H
      refine FW.seq ?_
      refine FW.seq ?_
      refine FW.region ?_
      refine U rfl rfl (V (x_movV (v := .int .i64 n2) rfl) ?_)
      refine U rfl rfl (V (x_movV (v := .string x0) rfl) ?_)
      refine U rfl rfl (V (x_lens tstr9 rfl) ?_)
      refine U rfl rfl (V (x_bin rfl rfl rfl) ?_)
      by_cases cc10 : n2 < (x0.size : Int)
      · rw [if_pos cc10] at H
        refine FW.condT rfl (deT cc10) ?_
        refine FW.skip ?_
        refine FW.seq ?_
        refine FW.block ?_
        refine FW.seq ?_
        refine FW.region ?_
        refine U rfl rfl (V (x_movV (v := .string x0) rfl) ?_)
        refine U rfl rfl (V (x_movV (v := .int .i64 n2) rfl) ?_)
        obtain ⟨y11, h12, H⟩ := obx H
        refine U rfl rfl (V (x_sat tstr9 rfl rfl h12) ?_)
        refine U rfl rfl (V (x_bin rfl rfl rfl) ?_)
        refine U rfl rfl (V (x_movV (v := .bool (y11 == 94)) rfl) ?_)
        by_cases cc13 : y11 = 94
        · rw [if_pos cc13] at H
          refine OK.gf rfl rfl rfl (eqT cc13) ?_
          refine OK.gf rfl rfl rfl (eqT cc13) ?_
          refine OK.gf rfl rfl rfl (eqT cc13) ?_
          refine OK.gf rfl rfl rfl (eqT cc13) ?_
          refine U rfl rfl (V (x_pickTV (v := .bool true) rfl (eqT cc13) rfl) ?_)
          refine FW.condT rfl rfl ?_
          refine FW.seq ?_
          refine FW.anew [] trivial fun σ => ?_
          refine FW.region ?_
          refine U rfl rfl (V (x_asgV (v := .bool true) rfl) ?_)
          refine FW.ret ?_
          obtain rfl := Option.some.inj H
          obtain rfl := Option.some.inj HO6
          exact ⟨_, ⟨_, rfl, rfl⟩, ⟨rfl, (S.weaken hI)⟩⟩
        · rw [if_neg cc13] at H
          refine OK.gt rfl rfl rfl (eqF cc13) (V (x_movV (v := .string x0) rfl) ?_)
          refine OK.gt rfl rfl rfl (eqF cc13) (V (x_movV (v := .int .i64 n2) rfl) ?_)
          obtain ⟨y14, h15, H⟩ := obx H
          refine OK.gt rfl rfl rfl (eqF cc13) (V (x_sat tstr9 rfl rfl h15) ?_)
          refine OK.gt rfl rfl rfl (eqF cc13) (V (x_bin rfl rfl rfl) ?_)
          refine U rfl rfl (V (x_pickFV (v := .bool (y14 == 36)) rfl (eqF cc13) rfl) ?_)
          by_cases cc16 : y14 = 36
          · rw [if_pos cc16] at H
            refine FW.condT rfl (eqT cc16) ?_
            refine FW.seq ?_
            refine FW.anew [] trivial fun σ => ?_
            refine FW.region ?_
            refine U rfl rfl (V (x_asgV (v := .bool true) rfl) ?_)
            refine FW.ret ?_
            obtain rfl := Option.some.inj H
            obtain rfl := Option.some.inj HO6
            exact ⟨_, ⟨_, rfl, rfl⟩, ⟨rfl, (S.weaken hI)⟩⟩
          · rw [if_neg cc16] at H
            refine FW.condF rfl (eqF cc16) ?_
            refine FW.skip ?_
            refine FW.anew [(0, .string x0), (3, .int .i64 n2)] ⟨rfl, rfl, trivial⟩ fun σ => ?_
            refine FW.region ?_
            refine U rfl rfl (V (x_movV (v := .int .i64 n2) rfl) ?_)
            refine U rfl rfl (V (x_bin rfl rfl rfl) ?_)
            refine U rfl rfl (V (x_asgV (v := .int .i64 (i64 (n2 + 1))) rfl) ?_)
            exact ⟨q3, Nat.le_refl _, (i64 (n2 + 1)), J1, H, (Nat.le_of_succ_le hq9), ⟨rfl, rfl, trivial⟩, hL4, S⟩
      · rw [if_neg cc10] at H
        refine FW.condF rfl (deF cc10) ?_
        refine FW.exit ?_
        exact ⟨J1, (Option.some.inj H), trivial, hL4, S⟩
  · rintro σ w ⟨J8, ho, hσ, hL4, S⟩
    subst ho
    have H := HO6
    try dsimp only at H
    have hI := hI.trans hL4
    have hG := hG.mono hL4
    rw [hσ.eq]
    refine FW.seq ?_
    refine FW.region ?_
    refine U rfl rfl (V (x_asgV (v := .bool false) rfl) ?_)
    refine FW.ret ?_
    obtain rfl := Option.some.inj H
    exact ⟨_, ⟨_, rfl, rfl⟩, ⟨rfl, (S.weaken hI)⟩⟩

def speculumlaw11_RegexParts_1.f (k : Nat) (x0 : ByteArray) (x1 : (List Int)) : Option Bool := ((scat (⟨#[94, 40]⟩) x0).bind fun s1 => ((scat s1 (⟨#[41, 36]⟩)).bind fun s3 => ((regex_Parse.f k s3).bind fun y5 => ((regex_Expr_Match.f k y5.1 x1).bind fun y9 => (some y9)))))
abbrev speculumlaw11_RegexParts_1.C (k : Nat) : Prop := ∀ {x0 : ByteArray} {x1 : (List Int)} {vx1 : Value} {F : List It} {I : IMem} {w : World} {r : Bool}, Glob I → Own I w (F) → SlR (tInt' .u32) I vx1 x1 → speculumlaw11_RegexParts_1.f k x0 x1 = some r →
    Calls Tryd.prog 13 #[.string x0, vx1] w fun e w' => ∃ v, e = .returned v ∧ v = .bool r ∧ Own I w' (F)
theorem speculumlaw11_RegexParts_1.ok (k : Nat) : speculumlaw11_RegexParts_1.C k := by
  intro x0 x1 vx1 F I w r hG S hx1 H
  have hI := IMem.le.refl I
  rw [speculumlaw11_RegexParts_1.f] at H
  refine Calls.ofFW (args := [.string x0, vx1]) Tryd.func13 rfl rfl ?_
  refine FW.seq ?_
  refine FW.region ?_
  refine U rfl rfl (V (x_asgV (v := .bool false) rfl) ?_)
  refine FW.seq ?_
  refine FW.region ?_
  refine U rfl rfl (V (x_movV (v := .string x0) rfl) ?_)
  obtain ⟨s1, h2, H⟩ := obx H
  refine U rfl rfl (V (x_catD rfl rfl h2) ?_)
  obtain ⟨s3, h4, H⟩ := obx H
  refine U rfl rfl (V (x_catD rfl rfl h4) ?_)
  obtain ⟨y5, hy6, H⟩ := obx H
  refine U rfl rfl (cl fb8 (@regex_Parse.ok k s3 _ _ _ _ hG S hy6) rfl ?_)
  rintro _ w ⟨vy5_0, J7, hJ8, rfl, hy5_0, S⟩
  have hx1 := hx1.mono hJ8
  have hI := hI.trans hJ8
  have hG := hG.mono hJ8
  refine U rfl rfl (V (x_movV (v := .tuple #[vy5_0, .int .i64 y5.2]) rfl) ?_)
  refine U rfl rfl (V (x_ext rfl rfl) ?_)
  refine U rfl rfl (V (x_ext rfl rfl) ?_)
  refine U rfl rfl (V (x_asgV (v := vy5_0) rfl) ?_)
  refine U rfl rfl (V (x_asgV (v := .int .i64 y5.2) rfl) ?_)
  refine FW.seq ?_
  refine FW.anew [(1, vx1), (5, vy5_0)] ⟨rfl, rfl, trivial⟩ fun σ => ?_
  refine FW.region ?_
  refine U rfl rfl (V (x_movV (v := vy5_0) rfl) ?_)
  refine U rfl rfl (V (x_movV (v := vx1) rfl) ?_)
  obtain ⟨y9, hy10, H⟩ := obx H
  refine U rfl rfl (cl fb10 (@regex_Expr_Match.ok k y5.1 x1 _ _ _ _ _ _ hG S hy5_0 hx1 hy10) rfl ?_)
  rintro _ w ⟨rfl, S⟩
  refine U rfl rfl (V (x_asgV (v := .bool y9) rfl) ?_)
  refine FW.ret ?_
  obtain rfl := Option.some.inj H
  exact ⟨_, ⟨_, rfl, rfl⟩, ⟨rfl, (S.weaken hI)⟩⟩
end Go.Proofs.YtkkflfmonidepaaDoor
