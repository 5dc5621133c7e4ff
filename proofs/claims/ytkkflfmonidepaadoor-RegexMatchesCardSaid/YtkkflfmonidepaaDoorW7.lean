/-
  Parts of the proof, merged: Join, T.
-/
import Derived.Room.Shelf.Join48
import Derived.Shelf.Lays
import Derived.Test.YtkkflfmonidepaaDoorProg
import Derived.Test.YtkkflfmonidepaaDoorW6
namespace Go.Proofs
open Go.Shelf Go.RowKit
def laysJoin_ren : Go.Shelf.Ren := ⟨fun | 156 => 40 | 165 => 47 | 166 => 48 | 169 => 49 | 240 => 54 | 241 => 55 | 276 => 57 | 277 => 58 | n => n, fun | 31 => 84 | 9 => 9 | 3 => 3 | 4 => 4 | 0 => 0 | 20 => 20 | 72 => 95 | 76 => 99 | 70 => 92 | 37 => 93 | 75 => 98 | 127 => 105 | 164 => 106 | 5 => 5 | 80 => 37 | n => n, fun | n => n⟩
theorem laysJoin : Go.Proofs.Lays.n156 Tryd.prog laysJoin_ren where
  mixed := by kernel_rfl
  f156 := Tryd.func40.trans (congrArg some (by kernel_rfl))
  f165 := Tryd.func47.trans (congrArg some (by kernel_rfl))
  f166 := Tryd.func48.trans (congrArg some (by kernel_rfl))
  f169 := Tryd.func49.trans (congrArg some (by kernel_rfl))
  f240 := Tryd.func54.trans (congrArg some (by kernel_rfl))
  f241 := Tryd.func55.trans (congrArg some (by kernel_rfl))
  f276 := Tryd.func57.trans (congrArg some (by kernel_rfl))
  f277 := Tryd.func58.trans (congrArg some (by kernel_rfl))
  t0 := Tryd.underlying0
  a0 := Tryd.isAgg0
  z0 := Tryd.sizeOf0
  v0 := Tryd.zeroValue0
  t3 := Tryd.underlying3
  a3 := Tryd.isAgg3
  z3 := Tryd.sizeOf3
  v3 := Tryd.zeroValue3
  t4 := Tryd.underlying4
  a4 := Tryd.isAgg4
  z4 := Tryd.sizeOf4
  v4 := Tryd.zeroValue4
  t9 := Tryd.underlying9
  a9 := Tryd.isAgg9
  z9 := Tryd.sizeOf9
  v9 := Tryd.zeroValue9
  t20 := Tryd.underlying20
  a20 := Tryd.isAgg20
  z20 := Tryd.sizeOf20
  v20 := Tryd.zeroValue20
  t31 := Tryd.underlying84
  a31 := Tryd.isAgg84
  z31 := Tryd.sizeOf84
  v31 := Tryd.zeroValue84
  t37 := Tryd.underlying93
  a37 := Tryd.isAgg93
  z37 := Tryd.sizeOf93
  v37 := Tryd.zeroValue93
  t70 := Tryd.underlying92
  a70 := Tryd.isAgg92
  z70 := Tryd.sizeOf92
  v70 := Tryd.zeroValue92
  t72 := Tryd.underlying95
  a72 := Tryd.isAgg95
  z72 := Tryd.sizeOf95
  v72 := Tryd.zeroValue95
  t75 := Tryd.underlying98
  a75 := Tryd.isAgg98
  z75 := Tryd.sizeOf98
  v75 := Tryd.zeroValue98
  t76 := Tryd.underlying99
  a76 := Tryd.isAgg99
  z76 := Tryd.sizeOf99
  v76 := Tryd.zeroValue99
  t127 := Tryd.underlying105
  a127 := Tryd.isAgg105
  z127 := Tryd.sizeOf105
  v127 := Tryd.zeroValue105
  t164 := Tryd.underlying106
  a164 := Tryd.isAgg106
  z164 := Tryd.sizeOf106
  v164 := Tryd.zeroValue106
theorem laysJoinX : Builder.Extra Tryd.prog laysJoin_ren where
  sizeBuilder := by kernel_rfl
  liesBuilder := by kernel_rfl
  t5 := Tryd.underlying5
  a5 := Tryd.isAgg5
  z5 := Tryd.sizeOf5
  v5 := Tryd.zeroValue5
  infoByte := by kernel_rfl
  cellsByte := by kernel_rfl
  sizeByte := by kernel_rfl
  neB5 := by decide
end Go.Proofs
namespace Go.Proofs.YtkkflfmonidepaaDoor
open Sp
set_option maxRecDepth 100000
set_option maxHeartbeats 4000000
structure T_regex_span where
  from_ : Int
  to_ : Int
def R_regex_span : RTy T_regex_span where
  sz := 2
  rep I cs x := cs = [.int .u32 x.from_, .int .u32 x.to_]
  mono := by rintro I J cs x h rfl; exact rfl
  len := by rintro I cs x rfl; rfl
  one := by rintro I cs x rfl; exact (c1 rfl (c1 rfl c0))
structure T_regex_piece where
  kind : Int
  parts : (List T_regex_piece)
  spans : (List T_regex_span)
  not : Bool
def R_regex_piece.n : Nat → RTy T_regex_piece
  | 0 => { sz := 4, rep := fun _ _ _ => False, mono := fun _ h => h.elim, len := fun h => h.elim, one := fun h => h.elim }
  | k + 1 => {
    sz := 4
    rep I cs x := ∃ v1 v2 : Value, cs = [.int .i64 x.kind, v1, v2, .bool x.not] ∧ SlR (R_regex_piece.n k) I v1 x.parts ∧ SlR R_regex_span I v2 x.spans
    mono := by rintro I J cs x h ⟨v1, v2, rfl, h1, h2⟩; exact ⟨v1, v2, rfl, h1.mono h, h2.mono h⟩
    len := by rintro I cs x ⟨v1, v2, rfl, h1, h2⟩; rfl
    one := by rintro I cs x ⟨v1, v2, rfl, h1, h2⟩; exact (c1 rfl (c1 h1.one (c1 h2.one (c1 rfl c0)))) }
def R_regex_piece : RTy T_regex_piece where
  sz := 4
  rep I cs x := ∃ k, (R_regex_piece.n k).rep I cs x
  mono := fun h ⟨k, e⟩ => ⟨k, (R_regex_piece.n k).mono h e⟩
  len := fun ⟨k, e⟩ => by have := (R_regex_piece.n k).len e; cases k <;> exact this
  one := fun ⟨k, e⟩ => (R_regex_piece.n k).one e
theorem R_regex_piece.up : ∀ k I cs x, (R_regex_piece.n k).rep I cs x → (R_regex_piece.n (k + 1)).rep I cs x
  | 0, _, _, _, h => h.elim
  | k + 1, I, _, _, ⟨v1, v2, rfl, h1, h2⟩ => ⟨v1, v2, rfl, h1.imp (R_regex_piece.up k I), h2⟩
theorem R_regex_piece.ups {k m : Nat} (h : k ≤ m) {I : IMem} {cs : List Value} {x : T_regex_piece} (hk : (R_regex_piece.n k).rep I cs x) : (R_regex_piece.n m).rep I cs x := by
  induction h with
  | refl => exact hk
  | step _ ih => exact R_regex_piece.up _ _ _ _ ih
theorem R_regex_piece.un {I : IMem} {cs : List Value} {x : T_regex_piece} (h : R_regex_piece.rep I cs x) : ∃ v1 v2 : Value, cs = [.int .i64 x.kind, v1, v2, .bool x.not] ∧ SlR R_regex_piece I v1 x.parts ∧ SlR R_regex_span I v2 x.spans := by
  obtain ⟨k, h⟩ := h
  cases k with
  | zero => exact h.elim
  | succ k =>
    obtain ⟨v1, v2, rfl, h1, h2⟩ := h
    exact ⟨v1, v2, rfl, h1.imp (r' := R_regex_piece) fun _ _ h => Exists.intro k h, h2⟩
theorem R_regex_piece.mk {I : IMem} {x : T_regex_piece} {v1 v2 : Value} (h1 : SlR R_regex_piece I v1 x.parts) (h2 : SlR R_regex_span I v2 x.spans) : R_regex_piece.rep I [.int .i64 x.kind, v1, v2, .bool x.not] x := by
  obtain ⟨k_h1, h1⟩ := h1.sup (fun _ _ hkm _ _ hh => R_regex_piece.ups hkm hh) (fun _ _ hh => hh)
  have h1 := h1.imp (fun _ _ hh => R_regex_piece.ups (show k_h1 ≤ k_h1 by omega) hh)
  exact ⟨k_h1 + 1, v1, v2, rfl, h1, h2⟩
structure T_regex_step where
  op : Int
  spans : (List T_regex_span)
  all : Bool
  not : Bool
  to_ : (Int × Int)
def R_regex_step : RTy T_regex_step where
  sz := 6
  rep I cs x := ∃ v1 : Value, cs = [.int .i64 x.op, v1, .bool x.all, .bool x.not, .int .i64 x.to_.1, .int .i64 x.to_.2] ∧ SlR R_regex_span I v1 x.spans
  mono := by rintro I J cs x h ⟨v1, rfl, h1⟩; exact ⟨v1, rfl, h1.mono h⟩
  len := by rintro I cs x ⟨v1, rfl, h1⟩; rfl
  one := by rintro I cs x ⟨v1, rfl, h1⟩; exact (c1 rfl (c1 h1.one (c1 rfl (c1 rfl (c1 rfl (c1 rfl c0))))))
structure T_regex_Expr where
  top : T_regex_piece
  prog : (List T_regex_step)
def R_regex_Expr : RTy T_regex_Expr where
  sz := 5
  rep I cs x := ∃ v1 v2 v4 : Value, cs = [.int .i64 x.top.kind, v1, v2, .bool x.top.not, v4] ∧ SlR R_regex_piece I v1 x.top.parts ∧ SlR R_regex_span I v2 x.top.spans ∧ SlR R_regex_step I v4 x.prog
  mono := by rintro I J cs x h ⟨v1, v2, v4, rfl, h1, h2, h4⟩; exact ⟨v1, v2, v4, rfl, h1.mono h, h2.mono h, h4.mono h⟩
  len := by rintro I cs x ⟨v1, v2, v4, rfl, h1, h2, h4⟩; rfl
  one := by rintro I cs x ⟨v1, v2, v4, rfl, h1, h2, h4⟩; exact (c1 rfl (c1 h1.one (c1 h2.one (c1 rfl (c1 h4.one c0)))))
structure T_regex_sign where
  c : Int
  n : Int
  digits : Bool
def R_regex_sign : RTy T_regex_sign where
  sz := 3
  rep I cs x := cs = [.int .i32 x.c, .int .u32 x.n, .bool x.digits]
  mono := by rintro I J cs x h rfl; exact rfl
  len := by rintro I cs x rfl; rfl
  one := by rintro I cs x rfl; exact (c1 rfl (c1 rfl (c1 rfl c0)))
structure T_regex_reader where
  rest : (List T_regex_sign)
  bad : Bool
structure T_speculumref11_Node where
  Kind : Int
  Kids : (List Int)
  From : (List Int)
  To : (List Int)
  Not : Bool
  Num : Bool
def R_speculumref11_Node : RTy T_speculumref11_Node where
  sz := 6
  rep I cs x := ∃ v1 v2 v3 : Value, cs = [.int .u8 x.Kind, v1, v2, v3, .bool x.Not, .bool x.Num] ∧ SlR (tInt' .i64) I v1 x.Kids ∧ SlR (tInt' .i64) I v2 x.From ∧ SlR (tInt' .i64) I v3 x.To
  mono := by rintro I J cs x h ⟨v1, v2, v3, rfl, h1, h2, h3⟩; exact ⟨v1, v2, v3, rfl, h1.mono h, h2.mono h, h3.mono h⟩
  len := by rintro I cs x ⟨v1, v2, v3, rfl, h1, h2, h3⟩; rfl
  one := by rintro I cs x ⟨v1, v2, v3, rfl, h1, h2, h3⟩; exact (c1 rfl (c1 h1.one (c1 h2.one (c1 h3.one (c1 rfl (c1 rfl c0))))))
structure T_speculumref11_P where
  S : ByteArray
  At : Int
  N : (List T_speculumref11_Node)
  Bad : Bool
def R_speculumref11_P : RTy T_speculumref11_P where
  sz := 4
  rep I cs x := ∃ v2 : Value, cs = [.string x.S, .int .i64 x.At, v2, .bool x.Bad] ∧ SlR R_speculumref11_Node I v2 x.N
  mono := by rintro I J cs x h ⟨v2, rfl, h2⟩; exact ⟨v2, rfl, h2.mono h⟩
  len := by rintro I cs x ⟨v2, rfl, h2⟩; rfl
  one := by rintro I cs x ⟨v2, rfl, h2⟩; exact (c1 rfl (c1 rfl (c1 h2.one (c1 rfl c0))))
theorem tstr9 : tStr Tryd.prog 9 = true := by kernel_rfl
theorem tz39 : tZ Tryd.prog 39 = some [(.slice none 0 0)] := by kernel_rfl
theorem tz3 : tZ Tryd.prog 3 = some [.int .i64 0] := by kernel_rfl
theorem tone3 : tOne Tryd.prog 3 = true := by kernel_rfl
theorem tsc9 : tSc Tryd.prog 9 = true := by kernel_rfl
theorem tsc3 : tSc Tryd.prog 3 = true := by kernel_rfl
theorem tag101 : tAg Tryd.prog 101 = some 16 := by kernel_rfl
theorem tar101 : tAr Tryd.prog 101 = some (16, 5, 1) := by kernel_rfl
theorem tsc5 : tSc Tryd.prog 5 = true := by kernel_rfl
theorem tint5 : tInt Tryd.prog 5 = some .u8 := by kernel_rfl
theorem tint3 : tInt Tryd.prog 3 = some .i64 := by kernel_rfl
theorem tint_3 : tInt Tryd.prog 3 ≠ none := by rw [tint3]; simp
theorem fb41 : fB Tryd.prog 41 = true := by kernel_rfl
theorem tint_5 : tInt Tryd.prog 5 ≠ none := by rw [tint5]; simp
theorem tint102 : tInt Tryd.prog 102 = some .u64 := by kernel_rfl
theorem tar103 : tAr Tryd.prog 103 = some (20, 5, 1) := by kernel_rfl
theorem tz103 : tZ Tryd.prog 103 = some [.int .u8 0, .int .u8 0, .int .u8 0, .int .u8 0, .int .u8 0, .int .u8 0, .int .u8 0, .int .u8 0, .int .u8 0, .int .u8 0, .int .u8 0, .int .u8 0, .int .u8 0, .int .u8 0, .int .u8 0, .int .u8 0, .int .u8 0, .int .u8 0, .int .u8 0, .int .u8 0] := by kernel_rfl
theorem tag103 : tAg Tryd.prog 103 = some 20 := by kernel_rfl
theorem tone5 : tOne Tryd.prog 5 = true := by kernel_rfl
theorem tbs93_9 : tBs Tryd.prog 93 9 = true := by kernel_rfl
theorem fb42 : fB Tryd.prog 42 = true := by kernel_rfl
theorem fb27 : fB Tryd.prog 27 = true := by kernel_rfl
theorem tsc39 : tSc Tryd.prog 39 = true := by kernel_rfl
theorem tint38 : tInt Tryd.prog 38 = some .u32 := by kernel_rfl
theorem tz51 : tZ Tryd.prog 51 = some [.int .i32 0, .int .u32 0, .bool false] := by kernel_rfl
theorem tpl51 : tPl Tryd.prog 51 = some [(0, 1), (1, 1), (2, 1)] := by kernel_rfl
theorem tsl39 : tSl Tryd.prog 39 = some (51, 3, 12) := by kernel_rfl
theorem tone39 : tOne Tryd.prog 39 = true := by kernel_rfl
theorem fb26 : fB Tryd.prog 26 = true := by kernel_rfl
theorem fb16 : fB Tryd.prog 16 = true := by kernel_rfl
theorem tz44 : tZ Tryd.prog 44 = some [(.slice none 0 0), .bool false] := by kernel_rfl
theorem tpl44 : tPl Tryd.prog 44 = some [(0, 1), (1, 1)] := by kernel_rfl
theorem tz48 : tZ Tryd.prog 48 = some [.int .i64 0, (.slice none 0 0), (.slice none 0 0), .bool false] := by kernel_rfl
theorem fb28 : fB Tryd.prog 28 = true := by kernel_rfl
theorem tsl45 : tSl Tryd.prog 45 = some (48, 4, 64) := by kernel_rfl
theorem tpl48 : tPl Tryd.prog 48 = some [(0, 1), (1, 1), (2, 1), (3, 1)] := by kernel_rfl
theorem tag48 : tAg Tryd.prog 48 = some 4 := by kernel_rfl
theorem tf44_1 : tF Tryd.prog 44 1 = some (1, 4) := by kernel_rfl
theorem tsc4 : tSc Tryd.prog 4 = true := by kernel_rfl
theorem tf44_0 : tF Tryd.prog 44 0 = some (0, 39) := by kernel_rfl
theorem tf51_0 : tF Tryd.prog 51 0 = some (0, 21) := by kernel_rfl
theorem tsc21 : tSc Tryd.prog 21 = true := by kernel_rfl
theorem tag51 : tAg Tryd.prog 51 = some 3 := by kernel_rfl
theorem fb18 : fB Tryd.prog 18 = true := by kernel_rfl
theorem fb29 : fB Tryd.prog 29 = true := by kernel_rfl
theorem tf48_1 : tF Tryd.prog 48 1 = some (1, 45) := by kernel_rfl
theorem tsc45 : tSc Tryd.prog 45 = true := by kernel_rfl
theorem tone45 : tOne Tryd.prog 45 = true := by kernel_rfl
theorem mixed : Tryd.prog.follows .mixedOrders = true := by kernel_rfl
theorem tf51_2 : tF Tryd.prog 51 2 = some (2, 4) := by kernel_rfl
theorem fb44 : fB Tryd.prog 44 = true := by kernel_rfl
theorem fb43 : fB Tryd.prog 43 = true := by kernel_rfl
theorem tf51_1 : tF Tryd.prog 51 1 = some (1, 38) := by kernel_rfl
theorem tsc38 : tSc Tryd.prog 38 = true := by kernel_rfl
theorem tz80 : tZ Tryd.prog 80 = some [.int .u32 0, .int .u32 0] := by kernel_rfl
theorem tpl80 : tPl Tryd.prog 80 = some [(0, 1), (1, 1)] := by kernel_rfl
theorem tsl46 : tSl Tryd.prog 46 = some (80, 2, 8) := by kernel_rfl
theorem tf48_3 : tF Tryd.prog 48 3 = some (3, 4) := by kernel_rfl
theorem tone4 : tOne Tryd.prog 4 = true := by kernel_rfl
theorem tf48_2 : tF Tryd.prog 48 2 = some (2, 46) := by kernel_rfl
theorem tsc46 : tSc Tryd.prog 46 = true := by kernel_rfl
theorem tone46 : tOne Tryd.prog 46 = true := by kernel_rfl
theorem fb50 : fB Tryd.prog 50 = true := by kernel_rfl
theorem fb17 : fB Tryd.prog 17 = true := by kernel_rfl
theorem tz55 : tZ Tryd.prog 55 = some [.int .i64 0, (.slice none 0 0), (.slice none 0 0), .bool false, (.slice none 0 0)] := by kernel_rfl
theorem tpl55 : tPl Tryd.prog 55 = some [(0, 4), (4, 1)] := by kernel_rfl
theorem tf48_0 : tF Tryd.prog 48 0 = some (0, 3) := by kernel_rfl
theorem fb19 : fB Tryd.prog 19 = true := by kernel_rfl
theorem fb30 : fB Tryd.prog 30 = true := by kernel_rfl
theorem tz59 : tZ Tryd.prog 59 = some [.int .i64 0, (.slice none 0 0), .bool false, .bool false, .int .i64 0, .int .i64 0] := by kernel_rfl
theorem tpl59 : tPl Tryd.prog 59 = some [(0, 1), (1, 1), (2, 1), (3, 1), (4, 2)] := by kernel_rfl
theorem tf55_1 : tF Tryd.prog 55 1 = some (4, 53) := by kernel_rfl
theorem tsc53 : tSc Tryd.prog 53 = true := by kernel_rfl
theorem tag59 : tAg Tryd.prog 59 = some 6 := by kernel_rfl
theorem tsl53 : tSl Tryd.prog 53 = some (59, 6, 56) := by kernel_rfl
theorem tone53 : tOne Tryd.prog 53 = true := by kernel_rfl
theorem fb31 : fB Tryd.prog 31 = true := by kernel_rfl
theorem tar57 : tAr Tryd.prog 57 = some (2, 3, 1) := by kernel_rfl
theorem tz57 : tZ Tryd.prog 57 = some [.int .i64 0, .int .i64 0] := by kernel_rfl
theorem tf59_4 : tF Tryd.prog 59 4 = some (4, 57) := by kernel_rfl
theorem tag57 : tAg Tryd.prog 57 = some 2 := by kernel_rfl
theorem tsl75 : tSl Tryd.prog 75 = some (3, 1, 8) := by kernel_rfl
theorem fb8 : fB Tryd.prog 8 = true := by kernel_rfl
theorem tsl22 : tSl Tryd.prog 22 = some (38, 1, 4) := by kernel_rfl
theorem tz38 : tZ Tryd.prog 38 = some [.int .u32 0] := by kernel_rfl
theorem tptr24 : Tryd.prog.underlying 24 = some (.pointer 55) := by kernel_rfl
theorem tsl64 : tSl Tryd.prog 64 = some (4, 1, 1) := by kernel_rfl
theorem tz4 : tZ Tryd.prog 4 = some [.bool false] := by kernel_rfl
theorem tf59_0 : tF Tryd.prog 59 0 = some (0, 3) := by kernel_rfl
theorem fb22 : fB Tryd.prog 22 = true := by kernel_rfl
theorem tf59_2 : tF Tryd.prog 59 2 = some (2, 4) := by kernel_rfl
theorem tf59_1 : tF Tryd.prog 59 1 = some (1, 46) := by kernel_rfl
theorem tag80 : tAg Tryd.prog 80 = some 2 := by kernel_rfl
theorem tf80_0 : tF Tryd.prog 80 0 = some (0, 38) := by kernel_rfl
theorem tf80_1 : tF Tryd.prog 80 1 = some (1, 38) := by kernel_rfl
theorem tf59_3 : tF Tryd.prog 59 3 = some (3, 4) := by kernel_rfl
theorem fb23 : fB Tryd.prog 23 = true := by kernel_rfl
theorem fb10 : fB Tryd.prog 10 = true := by kernel_rfl
theorem tf55_0 : tF Tryd.prog 55 0 = some (0, 48) := by kernel_rfl
theorem fb39 : fB Tryd.prog 39 = true := by kernel_rfl
theorem tsl84 : tSl Tryd.prog 84 = some (9, 1, 16) := by kernel_rfl
theorem tz9 : tZ Tryd.prog 9 = some [.string (⟨#[]⟩)] := by kernel_rfl
theorem fb40 : fB Tryd.prog 40 = true := by kernel_rfl
theorem fb25 : fB Tryd.prog 25 = true := by kernel_rfl
theorem tint_38 : tInt Tryd.prog 38 ≠ none := by rw [tint38]; simp
theorem fb46 : fB Tryd.prog 46 = true := by kernel_rfl
theorem fb15 : fB Tryd.prog 15 = true := by kernel_rfl
theorem fb7 : fB Tryd.prog 7 = true := by kernel_rfl
theorem tz62 : tZ Tryd.prog 62 = some [.string (⟨#[]⟩), .int .i64 0, (.slice none 0 0), .bool false] := by kernel_rfl
theorem tpl62 : tPl Tryd.prog 62 = some [(0, 1), (1, 1), (2, 1), (3, 1)] := by kernel_rfl
theorem fb32 : fB Tryd.prog 32 = true := by kernel_rfl
theorem tz77 : tZ Tryd.prog 77 = some [.int .u8 0, (.slice none 0 0), (.slice none 0 0), (.slice none 0 0), .bool false, .bool false] := by kernel_rfl
theorem tpl77 : tPl Tryd.prog 77 = some [(0, 1), (1, 1), (2, 1), (3, 1), (4, 1), (5, 1)] := by kernel_rfl
theorem tag77 : tAg Tryd.prog 77 = some 6 := by kernel_rfl
theorem tf62_3 : tF Tryd.prog 62 3 = some (3, 4) := by kernel_rfl
theorem tf62_1 : tF Tryd.prog 62 1 = some (1, 3) := by kernel_rfl
theorem tf62_0 : tF Tryd.prog 62 0 = some (0, 9) := by kernel_rfl
theorem fb21 : fB Tryd.prog 21 = true := by kernel_rfl
theorem tf77_1 : tF Tryd.prog 77 1 = some (1, 75) := by kernel_rfl
theorem tsc75 : tSc Tryd.prog 75 = true := by kernel_rfl
theorem tone75 : tOne Tryd.prog 75 = true := by kernel_rfl
theorem tf62_2 : tF Tryd.prog 62 2 = some (2, 60) := by kernel_rfl
theorem tsc60 : tSc Tryd.prog 60 = true := by kernel_rfl
theorem tsl60 : tSl Tryd.prog 60 = some (77, 6, 88) := by kernel_rfl
theorem tone60 : tOne Tryd.prog 60 = true := by kernel_rfl
theorem fb33 : fB Tryd.prog 33 = true := by kernel_rfl
theorem fb45 : fB Tryd.prog 45 = true := by kernel_rfl
theorem fb51 : fB Tryd.prog 51 = true := by kernel_rfl
theorem fb59 : fB Tryd.prog 59 = true := by kernel_rfl
theorem fb56 : fB Tryd.prog 56 = true := by kernel_rfl
theorem fb52 : fB Tryd.prog 52 = true := by kernel_rfl
theorem tf77_4 : tF Tryd.prog 77 4 = some (4, 4) := by kernel_rfl
theorem tf77_2 : tF Tryd.prog 77 2 = some (2, 75) := by kernel_rfl
theorem tf77_3 : tF Tryd.prog 77 3 = some (3, 75) := by kernel_rfl
theorem fb53 : fB Tryd.prog 53 = true := by kernel_rfl
theorem fb20 : fB Tryd.prog 20 = true := by kernel_rfl
theorem fb9 : fB Tryd.prog 9 = true := by kernel_rfl
theorem tf77_0 : tF Tryd.prog 77 0 = some (0, 5) := by kernel_rfl
theorem tsl67 : tSl Tryd.prog 67 = some (64, 1, 24) := by kernel_rfl
theorem tz64 : tZ Tryd.prog 64 = some [(.slice none 0 0)] := by kernel_rfl
theorem fb34 : fB Tryd.prog 34 = true := by kernel_rfl
theorem fb24 : fB Tryd.prog 24 = true := by kernel_rfl
theorem tsc64 : tSc Tryd.prog 64 = true := by kernel_rfl
theorem fb35 : fB Tryd.prog 35 = true := by kernel_rfl
theorem fb36 : fB Tryd.prog 36 = true := by kernel_rfl
theorem fb37 : fB Tryd.prog 37 = true := by kernel_rfl
theorem fb38 : fB Tryd.prog 38 = true := by kernel_rfl
theorem fb11 : fB Tryd.prog 11 = true := by kernel_rfl
theorem tbool4 : Tryd.prog.underlying 4 = some .bool := by kernel_rfl
def digs : List Int := [48, 49, 50, 51, 52, 53, 54, 55, 56, 57, 97, 98, 99, 100, 101, 102]
structure Glob (I : IMem) : Prop where
  g0 : At I 0 0 (digs.map (Value.int .u8))
theorem Glob.mono {I J : IMem} (h : Glob I) (hl : I.le J) : Glob J := ⟨h.g0.mono hl⟩
end Go.Proofs.YtkkflfmonidepaaDoor
