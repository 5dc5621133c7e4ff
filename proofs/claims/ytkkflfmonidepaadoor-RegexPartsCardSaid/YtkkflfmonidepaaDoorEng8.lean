/-
  NUMBERS, as the printed functions have them.
-/
import Derived.Test.YtkkflfmonidepaaDoorEng7
namespace Sp
open Go Go.RowKit
@[reducible] def band (k : IntKind) (x y : Int) : Int := k.wrap (BitVec.ofInt k.bits x &&& BitVec.ofInt k.bits y).toNat
@[reducible] def bor (k : IntKind) (x y : Int) : Int := k.wrap (BitVec.ofInt k.bits x ||| BitVec.ofInt k.bits y).toNat
@[reducible] def bxor (k : IntKind) (x y : Int) : Int := k.wrap (BitVec.ofInt k.bits x ^^^ BitVec.ofInt k.bits y).toNat
@[reducible] def bandNot (k : IntKind) (x y : Int) : Int := k.wrap (BitVec.ofInt k.bits x &&& ~~~BitVec.ofInt k.bits y).toNat
@[reducible] def shl (k : IntKind) (a b : Int) : Int := k.wrap (a * 2 ^ min b.toNat k.bits)
@[reducible] def shr (_k : IntKind) (a b : Int) : Int := a.fdiv (2 ^ min b.toNat _k.bits)
@[reducible] def mn (a b : Int) : Int := if b < a then b else a

section
variable {P : Program} {σ : Env} {w : World} {K : Env → World → Prop}
variable {d : Option Nat} {ty : TypeId} {pos : String} {af : Array Edge} {g : Option (Nat × Bool)}
theorem o_cat {xt yt : Nat} {x y : Operand} {a b c : ByteArray} (hx : ev σ x = .string a) (hy : ev σ y = .string b) (hc : scat a b = some c) (h : K (σ.put d (.string c)) w) : OW P ⟨d, .binOp .add xt x y yt, ty, pos, af, g⟩ K σ w := by
  obtain ⟨h1, rfl⟩ := scat_ok hc
  exact OW.val (x_cat hx hy h1) h
end
end Sp
