/-
  Parts of the proof, merged: T.
-/
import Derived.Test.YtafnenafbognkaaGreatDoorProg
import Derived.Test.YtafnenafbognkaaGreatDoorW7
namespace Go.Proofs.YtafnenafbognkaaGreatDoor
open Sp
set_option maxRecDepth 100000
set_option maxHeartbeats 4000000
structure T_api_Prefix where
  Addr : Int
  Len : Int
def R_api_Prefix : RTy T_api_Prefix where
  sz := 2
  rep I cs x := cs = [.int .u32 x.Addr, .int .i64 x.Len]
  mono := by rintro I J cs x h rfl; exact rfl
  len := by rintro I cs x rfl; rfl
  one := by rintro I cs x rfl; exact (c1 rfl (c1 rfl c0))
structure T_api_Range where
  Prefix : T_api_Prefix
  Min : Int
  Max : Int
def R_api_Range : RTy T_api_Range where
  sz := 4
  rep I cs x := cs = [.int .u32 x.Prefix.Addr, .int .i64 x.Prefix.Len, .int .i64 x.Min, .int .i64 x.Max]
  mono := by rintro I J cs x h rfl; exact rfl
  len := by rintro I cs x rfl; rfl
  one := by rintro I cs x rfl; exact (c1 rfl (c1 rfl (c1 rfl (c1 rfl c0))))
structure T_api_Cond where
  Kind : Int
  Not : Bool
  Num : Int
  Addr : Int
  Text : ByteArray
  Range : (List T_api_Range)
  Comms : (List Int)
def R_api_Cond : RTy T_api_Cond where
  sz := 7
  rep I cs x := ∃ v5 v6 : Value, cs = [.int .i64 x.Kind, .bool x.Not, .int .i64 x.Num, .int .u32 x.Addr, .string x.Text, v5, v6] ∧ SlR R_api_Range I v5 x.Range ∧ SlR (tInt' .u32) I v6 x.Comms
  mono := by rintro I J cs x h ⟨v5, v6, rfl, h5, h6⟩; exact ⟨v5, v6, rfl, h5.mono h, h6.mono h⟩
  len := by rintro I cs x ⟨v5, v6, rfl, h5, h6⟩; rfl
  one := by rintro I cs x ⟨v5, v6, rfl, h5, h6⟩; exact (c1 rfl (c1 rfl (c1 rfl (c1 rfl (c1 rfl (c1 h5.one (c1 h6.one c0)))))))
structure T_api_Deed where
  Kind : Int
  Num : Int
  Addr : Int
def R_api_Deed : RTy T_api_Deed where
  sz := 3
  rep I cs x := cs = [.int .i64 x.Kind, .int .i64 x.Num, .int .u32 x.Addr]
  mono := by rintro I J cs x h rfl; exact rfl
  len := by rintro I cs x rfl; rfl
  one := by rintro I cs x rfl; exact (c1 rfl (c1 rfl (c1 rfl c0)))
structure T_api_Rule where
  Conds : (List T_api_Cond)
  Deeds : (List T_api_Deed)
  Verdict : Int
def R_api_Rule : RTy T_api_Rule where
  sz := 3
  rep I cs x := ∃ v0 v1 : Value, cs = [v0, v1, .int .i64 x.Verdict] ∧ SlR R_api_Cond I v0 x.Conds ∧ SlR R_api_Deed I v1 x.Deeds
  mono := by rintro I J cs x h ⟨v0, v1, rfl, h0, h1⟩; exact ⟨v0, v1, rfl, h0.mono h, h1.mono h⟩
  len := by rintro I cs x ⟨v0, v1, rfl, h0, h1⟩; rfl
  one := by rintro I cs x ⟨v0, v1, rfl, h0, h1⟩; exact (c1 h0.one (c1 h1.one (c1 rfl c0)))
structure T_api_Segment where
  Kind : Int
  AS : (List Int)
def R_api_Segment : RTy T_api_Segment where
  sz := 2
  rep I cs x := ∃ v1 : Value, cs = [.int .i64 x.Kind, v1] ∧ SlR (tInt' .u32) I v1 x.AS
  mono := by rintro I J cs x h ⟨v1, rfl, h1⟩; exact ⟨v1, rfl, h1.mono h⟩
  len := by rintro I cs x ⟨v1, rfl, h1⟩; rfl
  one := by rintro I cs x ⟨v1, rfl, h1⟩; exact (c1 rfl (c1 h1.one c0))
structure T_api_Raw where
  Flags : Int
  Type_ : Int
  Data : (List Int)
def R_api_Raw : RTy T_api_Raw where
  sz := 3
  rep I cs x := ∃ v2 : Value, cs = [.int .i64 x.Flags, .int .i64 x.Type_, v2] ∧ SlR (tInt' .u8) I v2 x.Data
  mono := by rintro I J cs x h ⟨v2, rfl, h2⟩; exact ⟨v2, rfl, h2.mono h⟩
  len := by rintro I cs x ⟨v2, rfl, h2⟩; rfl
  one := by rintro I cs x ⟨v2, rfl, h2⟩; exact (c1 rfl (c1 rfl (c1 h2.one c0)))
structure T_api_Attrs where
  Origin : Int
  Path : (List T_api_Segment)
  Next : Int
  Med : Int
  Pref : Int
  Atomic : Bool
  HasAggr : Bool
  AggrAS : Int
  AggrAddr : Int
  Comms : (List Int)
  Raws : (List T_api_Raw)
def R_api_Attrs : RTy T_api_Attrs where
  sz := 11
  rep I cs x := ∃ v1 v9 v10 : Value, cs = [.int .i64 x.Origin, v1, .int .u32 x.Next, .int .i64 x.Med, .int .i64 x.Pref, .bool x.Atomic, .bool x.HasAggr, .int .u32 x.AggrAS, .int .u32 x.AggrAddr, v9, v10] ∧ SlR R_api_Segment I v1 x.Path ∧ SlR (tInt' .u32) I v9 x.Comms ∧ SlR R_api_Raw I v10 x.Raws
  mono := by rintro I J cs x h ⟨v1, v9, v10, rfl, h1, h9, h10⟩; exact ⟨v1, v9, v10, rfl, h1.mono h, h9.mono h, h10.mono h⟩
  len := by rintro I cs x ⟨v1, v9, v10, rfl, h1, h9, h10⟩; rfl
  one := by rintro I cs x ⟨v1, v9, v10, rfl, h1, h9, h10⟩; exact (c1 rfl (c1 h1.one (c1 rfl (c1 rfl (c1 rfl (c1 rfl (c1 rfl (c1 rfl (c1 rfl (c1 h9.one (c1 h10.one c0)))))))))))
structure T_regex_span where
  from_ : Int
  to_ : Int
def R_regex_span : RTy T_regex_span where
  sz := 2
  rep I cs x := cs = [.int .u32 x.from_, .int .u32 x.to_]
  mono := by rintro I J cs x h rfl; exact rfl
  len := by rintro I cs x rfl; rfl
  one := by rintro I cs x rfl; exact (c1 rfl (c1 rfl c0))
structure T_pc where
  kind : Int
  parts : (List T_pc)
  spans : (List T_regex_span)
  not : Bool
def R_regex_piece.n : Nat → RTy T_pc
  | 0 => { sz := 4, rep := fun _ _ _ => False, mono := fun _ h => h.elim, len := fun h => h.elim, one := fun h => h.elim }
  | k + 1 => {
    sz := 4
    rep I cs x := ∃ v1 v2 : Value, cs = [.int .i64 x.kind, v1, v2, .bool x.not] ∧ SlR (R_regex_piece.n k) I v1 x.parts ∧ SlR R_regex_span I v2 x.spans
    mono := by rintro I J cs x h ⟨v1, v2, rfl, h1, h2⟩; exact ⟨v1, v2, rfl, h1.mono h, h2.mono h⟩
    len := by rintro I cs x ⟨v1, v2, rfl, h1, h2⟩; rfl
    one := by rintro I cs x ⟨v1, v2, rfl, h1, h2⟩; exact (c1 rfl (c1 h1.one (c1 h2.one (c1 rfl c0)))) }
def R_regex_piece : RTy T_pc where
  sz := 4
  rep I cs x := ∃ k, (R_regex_piece.n k).rep I cs x
  mono := fun h ⟨k, e⟩ => ⟨k, (R_regex_piece.n k).mono h e⟩
  len := fun ⟨k, e⟩ => by have := (R_regex_piece.n k).len e; cases k <;> exact this
  one := fun ⟨k, e⟩ => (R_regex_piece.n k).one e
theorem R_regex_piece.up : ∀ k I cs x, (R_regex_piece.n k).rep I cs x → (R_regex_piece.n (k + 1)).rep I cs x
  | 0, _, _, _, h => h.elim
  | k + 1, I, _, _, ⟨v1, v2, rfl, h1, h2⟩ => ⟨v1, v2, rfl, h1.imp (R_regex_piece.up k I), h2⟩
theorem R_regex_piece.ups {k m : Nat} (h : k ≤ m) {I : IMem} {cs : List Value} {x : T_pc} (hk : (R_regex_piece.n k).rep I cs x) : (R_regex_piece.n m).rep I cs x := by
  induction h with
  | refl => exact hk
  | step _ ih => exact R_regex_piece.up _ _ _ _ ih
theorem R_regex_piece.un {I : IMem} {cs : List Value} {x : T_pc} (h : R_regex_piece.rep I cs x) : ∃ v1 v2 : Value, cs = [.int .i64 x.kind, v1, v2, .bool x.not] ∧ SlR R_regex_piece I v1 x.parts ∧ SlR R_regex_span I v2 x.spans := by
  obtain ⟨k, h⟩ := h
  cases k with
  | zero => exact h.elim
  | succ k =>
    obtain ⟨v1, v2, rfl, h1, h2⟩ := h
    exact ⟨v1, v2, rfl, h1.imp (r' := R_regex_piece) fun _ _ h => Exists.intro k h, h2⟩
theorem R_regex_piece.mk {I : IMem} {x : T_pc} {v1 v2 : Value} (h1 : SlR R_regex_piece I v1 x.parts) (h2 : SlR R_regex_span I v2 x.spans) : R_regex_piece.rep I [.int .i64 x.kind, v1, v2, .bool x.not] x := by
  obtain ⟨k_h1, h1⟩ := h1.sup (fun _ _ hkm _ _ hh => R_regex_piece.ups hkm hh) (fun _ _ hh => hh)
  have h1 := h1.imp (fun _ _ hh => R_regex_piece.ups (show k_h1 ≤ k_h1 by omega) hh)
  exact ⟨k_h1 + 1, v1, v2, rfl, h1, h2⟩
structure T_regex_step where
  op : Int
  spans : (List T_regex_span)
  all : Bool
  not : Bool
  to_ : (Int × Int)
def R_regex_step : RTy T_regex_step where
  sz := 6
  rep I cs x := ∃ v1 : Value, cs = [.int .i64 x.op, v1, .bool x.all, .bool x.not, .int .i64 x.to_.1, .int .i64 x.to_.2] ∧ SlR R_regex_span I v1 x.spans
  mono := by rintro I J cs x h ⟨v1, rfl, h1⟩; exact ⟨v1, rfl, h1.mono h⟩
  len := by rintro I cs x ⟨v1, rfl, h1⟩; rfl
  one := by rintro I cs x ⟨v1, rfl, h1⟩; exact (c1 rfl (c1 h1.one (c1 rfl (c1 rfl (c1 rfl (c1 rfl c0))))))
structure T_regex_Expr where
  top : T_pc
  prog : (List T_regex_step)
def R_regex_Expr : RTy T_regex_Expr where
  sz := 5
  rep I cs x := ∃ v1 v2 v4 : Value, cs = [.int .i64 x.top.kind, v1, v2, .bool x.top.not, v4] ∧ SlR R_regex_piece I v1 x.top.parts ∧ SlR R_regex_span I v2 x.top.spans ∧ SlR R_regex_step I v4 x.prog
  mono := by rintro I J cs x h ⟨v1, v2, v4, rfl, h1, h2, h4⟩; exact ⟨v1, v2, v4, rfl, h1.mono h, h2.mono h, h4.mono h⟩
  len := by rintro I cs x ⟨v1, v2, v4, rfl, h1, h2, h4⟩; rfl
  one := by rintro I cs x ⟨v1, v2, v4, rfl, h1, h2, h4⟩; exact (c1 rfl (c1 h1.one (c1 h2.one (c1 rfl (c1 h4.one c0)))))
structure T_sg where
  c : Int
  n : Int
  digits : Bool
def R_regex_sign : RTy T_sg where
  sz := 3
  rep I cs x := cs = [.int .i32 x.c, .int .u32 x.n, .bool x.digits]
  mono := by rintro I J cs x h rfl; exact rfl
  len := by rintro I cs x rfl; rfl
  one := by rintro I cs x rfl; exact (c1 rfl (c1 rfl (c1 rfl c0)))
structure T_regex_reader where
  rest : (List T_sg)
  bad : Bool
structure T_r11_Node where
  Kind : Int
  Kids : (List Int)
  From : (List Int)
  To : (List Int)
  Not : Bool
  Num : Bool
def R_r11_Node : RTy T_r11_Node where
  sz := 6
  rep I cs x := ∃ v1 v2 v3 : Value, cs = [.int .u8 x.Kind, v1, v2, v3, .bool x.Not, .bool x.Num] ∧ SlR (tInt' .i64) I v1 x.Kids ∧ SlR (tInt' .i64) I v2 x.From ∧ SlR (tInt' .i64) I v3 x.To
  mono := by rintro I J cs x h ⟨v1, v2, v3, rfl, h1, h2, h3⟩; exact ⟨v1, v2, v3, rfl, h1.mono h, h2.mono h, h3.mono h⟩
  len := by rintro I cs x ⟨v1, v2, v3, rfl, h1, h2, h3⟩; rfl
  one := by rintro I cs x ⟨v1, v2, v3, rfl, h1, h2, h3⟩; exact (c1 rfl (c1 h1.one (c1 h2.one (c1 h3.one (c1 rfl (c1 rfl c0))))))
structure T_r11_P where
  S : ByteArray
  At : Int
  N : (List T_r11_Node)
  Bad : Bool
def R_r11_P : RTy T_r11_P where
  sz := 4
  rep I cs x := ∃ v2 : Value, cs = [.string x.S, .int .i64 x.At, v2, .bool x.Bad] ∧ SlR R_r11_Node I v2 x.N
  mono := by rintro I J cs x h ⟨v2, rfl, h2⟩; exact ⟨v2, rfl, h2.mono h⟩
  len := by rintro I cs x ⟨v2, rfl, h2⟩; rfl
  one := by rintro I cs x ⟨v2, rfl, h2⟩; exact (c1 rfl (c1 rfl (c1 h2.one (c1 rfl c0))))
theorem tsl22 : tSl Tryz.prog 22 = some (51, 3, 56) := by kernel_rfl
theorem tf51_0 : tF Tryz.prog 51 0 = some (0, 48) := by kernel_rfl
theorem tsc48 : tSc Tryz.prog 48 = true := by kernel_rfl
theorem tsl48 : tSl Tryz.prog 48 = some (27, 7, 96) := by kernel_rfl
theorem tf51_1 : tF Tryz.prog 51 1 = some (1, 49) := by kernel_rfl
theorem tsc49 : tSc Tryz.prog 49 = true := by kernel_rfl
theorem tsl49 : tSl Tryz.prog 49 = some (29, 3, 24) := by kernel_rfl
theorem mixed : Tryz.prog.follows .mixedOrders = true := by kernel_rfl
theorem tag27 : tAg Tryz.prog 27 = some 7 := by kernel_rfl
theorem tf27_5 : tF Tryz.prog 27 5 = some (5, 24) := by kernel_rfl
theorem tsc24 : tSc Tryz.prog 24 = true := by kernel_rfl
theorem tsl24 : tSl Tryz.prog 24 = some (69, 4, 32) := by kernel_rfl
theorem tf27_4 : tF Tryz.prog 27 4 = some (4, 9) := by kernel_rfl
theorem tsc9 : tSc Tryz.prog 9 = true := by kernel_rfl
theorem tstr9 : tStr Tryz.prog 9 = true := by kernel_rfl
theorem tf27_6 : tF Tryz.prog 27 6 = some (6, 25) := by kernel_rfl
theorem tsc25 : tSc Tryz.prog 25 = true := by kernel_rfl
theorem tsl25 : tSl Tryz.prog 25 = some (23, 1, 4) := by kernel_rfl
theorem fb10 : fB Tryz.prog 10 = true := by kernel_rfl
theorem tz36 : tZ Tryz.prog 36 = some [.int .u32 0, .int .i64 0] := by kernel_rfl
theorem tpl36 : tPl Tryz.prog 36 = some [(0, 1), (1, 1)] := by kernel_rfl
theorem tz69 : tZ Tryz.prog 69 = some [.int .u32 0, .int .i64 0, .int .i64 0, .int .i64 0] := by kernel_rfl
theorem tpl69 : tPl Tryz.prog 69 = some [(0, 2), (2, 1), (3, 1)] := by kernel_rfl
theorem tz27 : tZ Tryz.prog 27 = some [.int .i64 0, .bool false, .int .i64 0, .int .u32 0, .string (⟨#[]⟩), (.slice none 0 0), (.slice none 0 0)] := by kernel_rfl
theorem tpl27 : tPl Tryz.prog 27 = some [(0, 1), (1, 1), (2, 1), (3, 1), (4, 1), (5, 1), (6, 1)] := by kernel_rfl
theorem tz29 : tZ Tryz.prog 29 = some [.int .i64 0, .int .i64 0, .int .u32 0] := by kernel_rfl
theorem tpl29 : tPl Tryz.prog 29 = some [(0, 1), (1, 1), (2, 1)] := by kernel_rfl
theorem tz51 : tZ Tryz.prog 51 = some [(.slice none 0 0), (.slice none 0 0), .int .i64 0] := by kernel_rfl
theorem tpl51 : tPl Tryz.prog 51 = some [(0, 1), (1, 1), (2, 1)] := by kernel_rfl
theorem tz40 : tZ Tryz.prog 40 = some [.int .i64 0, (.slice none 0 0), .int .u32 0, .int .i64 0, .int .i64 0, .bool false, .bool false, .int .u32 0, .int .u32 0, (.slice none 0 0), (.slice none 0 0)] := by kernel_rfl
theorem tpl40 : tPl Tryz.prog 40 = some [(0, 1), (1, 1), (2, 1), (3, 1), (4, 1), (5, 1), (6, 1), (7, 1), (8, 1), (9, 1), (10, 1)] := by kernel_rfl
theorem tag40 : tAg Tryz.prog 40 = some 11 := by kernel_rfl
theorem fb36 : fB Tryz.prog 36 = true := by kernel_rfl
theorem tag51 : tAg Tryz.prog 51 = some 3 := by kernel_rfl
theorem tf27_0 : tF Tryz.prog 27 0 = some (0, 3) := by kernel_rfl
theorem tsc3 : tSc Tryz.prog 3 = true := by kernel_rfl
theorem tag69 : tAg Tryz.prog 69 = some 4 := by kernel_rfl
theorem tf69_0 : tF Tryz.prog 69 0 = some (0, 36) := by kernel_rfl
theorem tag36 : tAg Tryz.prog 36 = some 2 := by kernel_rfl
theorem tf36_1 : tF Tryz.prog 36 1 = some (1, 3) := by kernel_rfl
theorem tf36_0 : tF Tryz.prog 36 0 = some (0, 23) := by kernel_rfl
theorem tsc23 : tSc Tryz.prog 23 = true := by kernel_rfl
theorem fb111 : fB Tryz.prog 111 = true := by kernel_rfl
theorem fb79 : fB Tryz.prog 79 = true := by kernel_rfl
theorem tf69_1 : tF Tryz.prog 69 1 = some (2, 3) := by kernel_rfl
theorem tf69_2 : tF Tryz.prog 69 2 = some (3, 3) := by kernel_rfl
theorem fb41 : fB Tryz.prog 41 = true := by kernel_rfl
theorem fb40 : fB Tryz.prog 40 = true := by kernel_rfl
theorem fb80 : fB Tryz.prog 80 = true := by kernel_rfl
theorem fb42 : fB Tryz.prog 42 = true := by kernel_rfl
theorem tz112 : tZ Tryz.prog 112 = some [(.slice none 0 0)] := by kernel_rfl
theorem tz3 : tZ Tryz.prog 3 = some [.int .i64 0] := by kernel_rfl
theorem tone3 : tOne Tryz.prog 3 = true := by kernel_rfl
theorem tag185 : tAg Tryz.prog 185 = some 16 := by kernel_rfl
theorem tar185 : tAr Tryz.prog 185 = some (16, 5, 1) := by kernel_rfl
theorem tsc5 : tSc Tryz.prog 5 = true := by kernel_rfl
theorem tint5 : tInt Tryz.prog 5 = some .u8 := by kernel_rfl
theorem tint3 : tInt Tryz.prog 3 = some .i64 := by kernel_rfl
theorem tint_3 : tInt Tryz.prog 3 ≠ none := by rw [tint3]; simp
theorem fb139 : fB Tryz.prog 139 = true := by kernel_rfl
theorem tint_5 : tInt Tryz.prog 5 ≠ none := by rw [tint5]; simp
theorem tint186 : tInt Tryz.prog 186 = some .u64 := by kernel_rfl
theorem tar187 : tAr Tryz.prog 187 = some (20, 5, 1) := by kernel_rfl
theorem tz187 : tZ Tryz.prog 187 = some [.int .u8 0, .int .u8 0, .int .u8 0, .int .u8 0, .int .u8 0, .int .u8 0, .int .u8 0, .int .u8 0, .int .u8 0, .int .u8 0, .int .u8 0, .int .u8 0, .int .u8 0, .int .u8 0, .int .u8 0, .int .u8 0, .int .u8 0, .int .u8 0, .int .u8 0, .int .u8 0] := by kernel_rfl
theorem tag187 : tAg Tryz.prog 187 = some 20 := by kernel_rfl
theorem tone5 : tOne Tryz.prog 5 = true := by kernel_rfl
theorem tbs84_9 : tBs Tryz.prog 84 9 = true := by kernel_rfl
theorem fb140 : fB Tryz.prog 140 = true := by kernel_rfl
theorem fb113 : fB Tryz.prog 113 = true := by kernel_rfl
theorem tsc112 : tSc Tryz.prog 112 = true := by kernel_rfl
theorem tint23 : tInt Tryz.prog 23 = some .u32 := by kernel_rfl
theorem tz124 : tZ Tryz.prog 124 = some [.int .i32 0, .int .u32 0, .bool false] := by kernel_rfl
theorem tpl124 : tPl Tryz.prog 124 = some [(0, 1), (1, 1), (2, 1)] := by kernel_rfl
theorem tsl112 : tSl Tryz.prog 112 = some (124, 3, 12) := by kernel_rfl
theorem tone112 : tOne Tryz.prog 112 = true := by kernel_rfl
theorem fb112 : fB Tryz.prog 112 = true := by kernel_rfl
theorem fb81 : fB Tryz.prog 81 = true := by kernel_rfl
theorem tz117 : tZ Tryz.prog 117 = some [(.slice none 0 0), .bool false] := by kernel_rfl
theorem tpl117 : tPl Tryz.prog 117 = some [(0, 1), (1, 1)] := by kernel_rfl
theorem tz121 : tZ Tryz.prog 121 = some [.int .i64 0, (.slice none 0 0), (.slice none 0 0), .bool false] := by kernel_rfl
theorem fb114 : fB Tryz.prog 114 = true := by kernel_rfl
theorem tsl118 : tSl Tryz.prog 118 = some (121, 4, 64) := by kernel_rfl
theorem tpl121 : tPl Tryz.prog 121 = some [(0, 1), (1, 1), (2, 1), (3, 1)] := by kernel_rfl
theorem tag121 : tAg Tryz.prog 121 = some 4 := by kernel_rfl
theorem tf117_1 : tF Tryz.prog 117 1 = some (1, 4) := by kernel_rfl
theorem tsc4 : tSc Tryz.prog 4 = true := by kernel_rfl
theorem tf117_0 : tF Tryz.prog 117 0 = some (0, 112) := by kernel_rfl
theorem tf124_0 : tF Tryz.prog 124 0 = some (0, 21) := by kernel_rfl
theorem tsc21 : tSc Tryz.prog 21 = true := by kernel_rfl
theorem tag124 : tAg Tryz.prog 124 = some 3 := by kernel_rfl
theorem fb83 : fB Tryz.prog 83 = true := by kernel_rfl
theorem fb115 : fB Tryz.prog 115 = true := by kernel_rfl
theorem tf121_1 : tF Tryz.prog 121 1 = some (1, 118) := by kernel_rfl
theorem tsc118 : tSc Tryz.prog 118 = true := by kernel_rfl
theorem tone118 : tOne Tryz.prog 118 = true := by kernel_rfl
theorem tf124_2 : tF Tryz.prog 124 2 = some (2, 4) := by kernel_rfl
theorem fb142 : fB Tryz.prog 142 = true := by kernel_rfl
theorem fb141 : fB Tryz.prog 141 = true := by kernel_rfl
theorem tf124_1 : tF Tryz.prog 124 1 = some (1, 23) := by kernel_rfl
theorem tz167 : tZ Tryz.prog 167 = some [.int .u32 0, .int .u32 0] := by kernel_rfl
theorem tpl167 : tPl Tryz.prog 167 = some [(0, 1), (1, 1)] := by kernel_rfl
theorem tsl119 : tSl Tryz.prog 119 = some (167, 2, 8) := by kernel_rfl
theorem tf121_3 : tF Tryz.prog 121 3 = some (3, 4) := by kernel_rfl
theorem tone4 : tOne Tryz.prog 4 = true := by kernel_rfl
theorem tf121_2 : tF Tryz.prog 121 2 = some (2, 119) := by kernel_rfl
theorem tsc119 : tSc Tryz.prog 119 = true := by kernel_rfl
theorem tone119 : tOne Tryz.prog 119 = true := by kernel_rfl
theorem fb149 : fB Tryz.prog 149 = true := by kernel_rfl
theorem fb82 : fB Tryz.prog 82 = true := by kernel_rfl
theorem tz128 : tZ Tryz.prog 128 = some [.int .i64 0, (.slice none 0 0), (.slice none 0 0), .bool false, (.slice none 0 0)] := by kernel_rfl
theorem tpl128 : tPl Tryz.prog 128 = some [(0, 4), (4, 1)] := by kernel_rfl
theorem tf121_0 : tF Tryz.prog 121 0 = some (0, 3) := by kernel_rfl
theorem fb84 : fB Tryz.prog 84 = true := by kernel_rfl
theorem fb116 : fB Tryz.prog 116 = true := by kernel_rfl
theorem tz132 : tZ Tryz.prog 132 = some [.int .i64 0, (.slice none 0 0), .bool false, .bool false, .int .i64 0, .int .i64 0] := by kernel_rfl
theorem tpl132 : tPl Tryz.prog 132 = some [(0, 1), (1, 1), (2, 1), (3, 1), (4, 2)] := by kernel_rfl
theorem tf128_1 : tF Tryz.prog 128 1 = some (4, 126) := by kernel_rfl
theorem tsc126 : tSc Tryz.prog 126 = true := by kernel_rfl
theorem tag132 : tAg Tryz.prog 132 = some 6 := by kernel_rfl
theorem tsl126 : tSl Tryz.prog 126 = some (132, 6, 56) := by kernel_rfl
theorem tone126 : tOne Tryz.prog 126 = true := by kernel_rfl
theorem fb117 : fB Tryz.prog 117 = true := by kernel_rfl
theorem tar130 : tAr Tryz.prog 130 = some (2, 3, 1) := by kernel_rfl
theorem tz130 : tZ Tryz.prog 130 = some [.int .i64 0, .int .i64 0] := by kernel_rfl
theorem tf132_4 : tF Tryz.prog 132 4 = some (4, 130) := by kernel_rfl
theorem tag130 : tAg Tryz.prog 130 = some 2 := by kernel_rfl
theorem tsl161 : tSl Tryz.prog 161 = some (3, 1, 8) := by kernel_rfl
theorem fb43 : fB Tryz.prog 43 = true := by kernel_rfl
theorem tf27_2 : tF Tryz.prog 27 2 = some (2, 3) := by kernel_rfl
theorem fb14 : fB Tryz.prog 14 = true := by kernel_rfl
theorem fb75 : fB Tryz.prog 75 = true := by kernel_rfl
theorem fb109 : fB Tryz.prog 109 = true := by kernel_rfl
theorem fb77 : fB Tryz.prog 77 = true := by kernel_rfl
theorem tag29 : tAg Tryz.prog 29 = some 3 := by kernel_rfl
theorem tf29_0 : tF Tryz.prog 29 0 = some (0, 3) := by kernel_rfl
theorem tf29_1 : tF Tryz.prog 29 1 = some (1, 3) := by kernel_rfl
theorem tf29_2 : tF Tryz.prog 29 2 = some (2, 23) := by kernel_rfl
theorem fb46 : fB Tryz.prog 46 = true := by kernel_rfl
theorem fb16 : fB Tryz.prog 16 = true := by kernel_rfl
theorem fb76 : fB Tryz.prog 76 = true := by kernel_rfl
theorem fb110 : fB Tryz.prog 110 = true := by kernel_rfl
theorem fb78 : fB Tryz.prog 78 = true := by kernel_rfl
theorem tf51_2 : tF Tryz.prog 51 2 = some (2, 3) := by kernel_rfl
theorem fb39 : fB Tryz.prog 39 = true := by kernel_rfl
theorem fb38 : fB Tryz.prog 38 = true := by kernel_rfl
theorem fb74 : fB Tryz.prog 74 = true := by kernel_rfl
theorem fb37 : fB Tryz.prog 37 = true := by kernel_rfl
theorem fb12 : fB Tryz.prog 12 = true := by kernel_rfl
theorem tf27_1 : tF Tryz.prog 27 1 = some (1, 4) := by kernel_rfl
theorem tbool4 : Tryz.prog.underlying 4 = some .bool := by kernel_rfl
theorem fb145 : fB Tryz.prog 145 = true := by kernel_rfl
theorem fb121 : fB Tryz.prog 121 = true := by kernel_rfl
theorem fb89 : fB Tryz.prog 89 = true := by kernel_rfl
theorem fb88 : fB Tryz.prog 88 = true := by kernel_rfl
theorem fb49 : fB Tryz.prog 49 = true := by kernel_rfl
theorem tf40_1 : tF Tryz.prog 40 1 = some (1, 37) := by kernel_rfl
theorem tsc37 : tSc Tryz.prog 37 = true := by kernel_rfl
theorem tsl37 : tSl Tryz.prog 37 = some (88, 2, 32) := by kernel_rfl
theorem tag88 : tAg Tryz.prog 88 = some 2 := by kernel_rfl
theorem tz88 : tZ Tryz.prog 88 = some [.int .i64 0, (.slice none 0 0)] := by kernel_rfl
theorem tf88_1 : tF Tryz.prog 88 1 = some (1, 25) := by kernel_rfl
theorem fb93 : fB Tryz.prog 93 = true := by kernel_rfl
theorem tz23 : tZ Tryz.prog 23 = some [.int .u32 0] := by kernel_rfl
theorem fb92 : fB Tryz.prog 92 = true := by kernel_rfl
theorem fb51 : fB Tryz.prog 51 = true := by kernel_rfl
theorem tptr75 : Tryz.prog.underlying 75 = some (.pointer 128) := by kernel_rfl
theorem tsl140 : tSl Tryz.prog 140 = some (4, 1, 1) := by kernel_rfl
theorem tz4 : tZ Tryz.prog 4 = some [.bool false] := by kernel_rfl
theorem tf132_0 : tF Tryz.prog 132 0 = some (0, 3) := by kernel_rfl
theorem fb90 : fB Tryz.prog 90 = true := by kernel_rfl
theorem tf132_2 : tF Tryz.prog 132 2 = some (2, 4) := by kernel_rfl
theorem tf132_1 : tF Tryz.prog 132 1 = some (1, 119) := by kernel_rfl
theorem tag167 : tAg Tryz.prog 167 = some 2 := by kernel_rfl
theorem tf167_0 : tF Tryz.prog 167 0 = some (0, 23) := by kernel_rfl
theorem tf167_1 : tF Tryz.prog 167 1 = some (1, 23) := by kernel_rfl
theorem tf132_3 : tF Tryz.prog 132 3 = some (3, 4) := by kernel_rfl
theorem fb91 : fB Tryz.prog 91 = true := by kernel_rfl
theorem fb50 : fB Tryz.prog 50 = true := by kernel_rfl
theorem tf40_9 : tF Tryz.prog 40 9 = some (9, 25) := by kernel_rfl
theorem fb123 : fB Tryz.prog 123 = true := by kernel_rfl
theorem fb96 : fB Tryz.prog 96 = true := by kernel_rfl
theorem fb95 : fB Tryz.prog 95 = true := by kernel_rfl
theorem fb122 : fB Tryz.prog 122 = true := by kernel_rfl
theorem fb94 : fB Tryz.prog 94 = true := by kernel_rfl
theorem fb52 : fB Tryz.prog 52 = true := by kernel_rfl
theorem tf88_0 : tF Tryz.prog 88 0 = some (0, 3) := by kernel_rfl
theorem fb53 : fB Tryz.prog 53 = true := by kernel_rfl
theorem tf40_2 : tF Tryz.prog 40 2 = some (2, 23) := by kernel_rfl
theorem tf27_3 : tF Tryz.prog 27 3 = some (3, 23) := by kernel_rfl
theorem tf40_0 : tF Tryz.prog 40 0 = some (0, 3) := by kernel_rfl
theorem fb20 : fB Tryz.prog 20 = true := by kernel_rfl
theorem tf40_4 : tF Tryz.prog 40 4 = some (4, 3) := by kernel_rfl
theorem tf40_3 : tF Tryz.prog 40 3 = some (3, 3) := by kernel_rfl
theorem fb99 : fB Tryz.prog 99 = true := by kernel_rfl
theorem tone37 : tOne Tryz.prog 37 = true := by kernel_rfl
theorem fb100 : fB Tryz.prog 100 = true := by kernel_rfl
theorem tone25 : tOne Tryz.prog 25 = true := by kernel_rfl
theorem fb101 : fB Tryz.prog 101 = true := by kernel_rfl
theorem tone23 : tOne Tryz.prog 23 = true := by kernel_rfl
theorem fb58 : fB Tryz.prog 58 = true := by kernel_rfl
theorem fb22 : fB Tryz.prog 22 = true := by kernel_rfl
theorem fb11 : fB Tryz.prog 11 = true := by kernel_rfl
theorem tint_23 : tInt Tryz.prog 23 ≠ none := by rw [tint23]; simp
theorem fb143 : fB Tryz.prog 143 = true := by kernel_rfl
theorem fb118 : fB Tryz.prog 118 = true := by kernel_rfl
theorem te2_36 : tE2 Tryz.prog 36 = true := by kernel_rfl
theorem fb85 : fB Tryz.prog 85 = true := by kernel_rfl
theorem fb44 : fB Tryz.prog 44 = true := by kernel_rfl
theorem tz135 : tZ Tryz.prog 135 = some [.string (⟨#[]⟩), .int .i64 0, (.slice none 0 0), .bool false] := by kernel_rfl
theorem tpl135 : tPl Tryz.prog 135 = some [(0, 1), (1, 1), (2, 1), (3, 1)] := by kernel_rfl
theorem fb119 : fB Tryz.prog 119 = true := by kernel_rfl
theorem tz163 : tZ Tryz.prog 163 = some [.int .u8 0, (.slice none 0 0), (.slice none 0 0), (.slice none 0 0), .bool false, .bool false] := by kernel_rfl
theorem tpl163 : tPl Tryz.prog 163 = some [(0, 1), (1, 1), (2, 1), (3, 1), (4, 1), (5, 1)] := by kernel_rfl
theorem tag163 : tAg Tryz.prog 163 = some 6 := by kernel_rfl
theorem tf135_3 : tF Tryz.prog 135 3 = some (3, 4) := by kernel_rfl
theorem tf135_1 : tF Tryz.prog 135 1 = some (1, 3) := by kernel_rfl
theorem tf135_0 : tF Tryz.prog 135 0 = some (0, 9) := by kernel_rfl
theorem fb87 : fB Tryz.prog 87 = true := by kernel_rfl
theorem tf163_1 : tF Tryz.prog 163 1 = some (1, 161) := by kernel_rfl
theorem tsc161 : tSc Tryz.prog 161 = true := by kernel_rfl
theorem tone161 : tOne Tryz.prog 161 = true := by kernel_rfl
theorem tf135_2 : tF Tryz.prog 135 2 = some (2, 133) := by kernel_rfl
theorem tsc133 : tSc Tryz.prog 133 = true := by kernel_rfl
theorem tsl133 : tSl Tryz.prog 133 = some (163, 6, 88) := by kernel_rfl
theorem tone133 : tOne Tryz.prog 133 = true := by kernel_rfl
theorem fb120 : fB Tryz.prog 120 = true := by kernel_rfl
theorem fb144 : fB Tryz.prog 144 = true := by kernel_rfl
theorem fb150 : fB Tryz.prog 150 = true := by kernel_rfl
theorem fb156 : fB Tryz.prog 156 = true := by kernel_rfl
theorem fb155 : fB Tryz.prog 155 = true := by kernel_rfl
theorem fb151 : fB Tryz.prog 151 = true := by kernel_rfl
theorem tf163_4 : tF Tryz.prog 163 4 = some (4, 4) := by kernel_rfl
theorem tf163_2 : tF Tryz.prog 163 2 = some (2, 161) := by kernel_rfl
theorem tf163_3 : tF Tryz.prog 163 3 = some (3, 161) := by kernel_rfl
theorem fb152 : fB Tryz.prog 152 = true := by kernel_rfl
theorem fb86 : fB Tryz.prog 86 = true := by kernel_rfl
theorem fb45 : fB Tryz.prog 45 = true := by kernel_rfl
theorem fb48 : fB Tryz.prog 48 = true := by kernel_rfl
theorem tf40_10 : tF Tryz.prog 40 10 = some (10, 38) := by kernel_rfl
theorem tsc38 : tSc Tryz.prog 38 = true := by kernel_rfl
theorem tsl38 : tSl Tryz.prog 38 = some (86, 3, 40) := by kernel_rfl
theorem tf86_2 : tF Tryz.prog 86 2 = some (2, 84) := by kernel_rfl
theorem tsc84 : tSc Tryz.prog 84 = true := by kernel_rfl
theorem tsl84 : tSl Tryz.prog 84 = some (5, 1, 1) := by kernel_rfl
theorem fb18 : fB Tryz.prog 18 = true := by kernel_rfl
theorem fb19 : fB Tryz.prog 19 = true := by kernel_rfl
theorem fb146 : fB Tryz.prog 146 = true := by kernel_rfl
theorem fb124 : fB Tryz.prog 124 = true := by kernel_rfl
theorem fb97 : fB Tryz.prog 97 = true := by kernel_rfl
theorem fb54 : fB Tryz.prog 54 = true := by kernel_rfl
theorem tf163_0 : tF Tryz.prog 163 0 = some (0, 5) := by kernel_rfl
theorem tsl145 : tSl Tryz.prog 145 = some (140, 1, 24) := by kernel_rfl
theorem tz140 : tZ Tryz.prog 140 = some [(.slice none 0 0)] := by kernel_rfl
theorem fb125 : fB Tryz.prog 125 = true := by kernel_rfl
theorem fb98 : fB Tryz.prog 98 = true := by kernel_rfl
theorem tsc140 : tSc Tryz.prog 140 = true := by kernel_rfl
theorem fb126 : fB Tryz.prog 126 = true := by kernel_rfl
theorem fb127 : fB Tryz.prog 127 = true := by kernel_rfl
theorem fb128 : fB Tryz.prog 128 = true := by kernel_rfl
theorem fb129 : fB Tryz.prog 129 = true := by kernel_rfl
theorem fb55 : fB Tryz.prog 55 = true := by kernel_rfl
theorem fb68 : fB Tryz.prog 68 = true := by kernel_rfl
theorem fb56 : fB Tryz.prog 56 = true := by kernel_rfl
theorem fb57 : fB Tryz.prog 57 = true := by kernel_rfl
theorem fb21 : fB Tryz.prog 21 = true := by kernel_rfl
def digs : List Int := [48, 49, 50, 51, 52, 53, 54, 55, 56, 57, 97, 98, 99, 100, 101, 102]
structure Glob (I : IMem) : Prop where
  g0 : At I 0 0 (digs.map (Value.int .u8))
theorem Glob.mono {I J : IMem} (h : Glob I) (hl : I.le J) : Glob J := ⟨h.g0.mono hl⟩
end Go.Proofs.YtafnenafbognkaaGreatDoor
