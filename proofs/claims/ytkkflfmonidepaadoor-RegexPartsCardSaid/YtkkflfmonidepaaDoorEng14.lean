/-
  KINDS OF DATA THAT HOLD THEMSELVES, BY DEPTH.
-/
import Derived.Test.YtkkflfmonidepaaDoorEng13
namespace Sp
open Go Go.RowKit

section
variable {I : IMem} {α : Type}

theorem Flat.imp {r r' : RTy α} (h : ∀ cs x, r.rep I cs x → r'.rep I cs x) : ∀ {l : List α} {cs : List Value}, Flat r I cs l → Flat r' I cs l
  | [], _, hf => hf
  | _ :: _, _, ⟨c, cs', e, h1, h2⟩ => ⟨c, cs', e, h _ _ h1, Flat.imp h h2⟩
theorem SlR.imp {r r' : RTy α} (h : ∀ cs x, r.rep I cs x → r'.rep I cs x) {v : Value} {l : List α} : SlR r I v l → SlR r' I v l
  | ⟨A, c, cs, h1, h2, h3, h4, h5⟩ => ⟨A, c, cs, h1, h2, h3, h4.imp h, h5⟩
theorem Flat.sup {r : RTy α} {N : Nat → RTy α} (hm : ∀ k m, k ≤ m → ∀ cs x, (N k).rep I cs x → (N m).rep I cs x) (hr : ∀ cs x, r.rep I cs x → ∃ k, (N k).rep I cs x) :
    ∀ {l : List α} {cs : List Value}, Flat r I cs l → ∃ k, Flat (N k) I cs l
  | [], _, hf => ⟨0, hf⟩
  | _ :: _, _, ⟨c, cs', e, h1, h2⟩ => by
    obtain ⟨k, hk⟩ := hr _ _ h1
    obtain ⟨m, hm'⟩ := Flat.sup hm hr h2
    exact ⟨max k m, c, cs', e, hm _ _ (Nat.le_max_left _ _) _ _ hk, hm'.imp (hm _ _ (Nat.le_max_right _ _))⟩
theorem SlR.sup {r : RTy α} {N : Nat → RTy α} (hm : ∀ k m, k ≤ m → ∀ cs x, (N k).rep I cs x → (N m).rep I cs x) (hr : ∀ cs x, r.rep I cs x → ∃ k, (N k).rep I cs x) {v : Value} {l : List α} :
    SlR r I v l → ∃ k, SlR (N k) I v l
  | ⟨A, c, cs, h1, h2, h3, h4, h5⟩ => by
    obtain ⟨k, hk⟩ := h4.sup hm hr
    exact ⟨k, A, c, cs, h1, h2, h3, hk, h5⟩
end
end Sp
namespace Sp
open Go Go.RowKit
/-- What is in the slots, told anew. -/
theorem FW.anew {P : Program} {n : Nat} {c : Code} {Q : Exit → Env → World → Prop} {σ : Env} {w : World} (l : List (Nat × Value)) (h : Has σ l) (k : ∀ σ, FW P n c Q (puts σ l) w) : FW P n c Q σ w := by
  rw [Has.eq h]; exact k σ
end Sp
namespace Sp
open Go Go.RowKit
theorem x_mkfL {P : Program} {σ : Env} {w : World} {d : Option Nat} {ty : TypeId} {pos : String} {af : Array Edge} {g : Option (Nat × Bool)} {f : FuncId} {cap : List Operand} {l : List Value} (h : cap.map (ev σ) = l) :
    (execOp (ev σ) ⟨d, .makeFunc (.func f) #[] cap.toArray, ty, pos, af, g⟩).run P w = .ok (.value (.func (.func f) #[] l.toArray)) w := by
  rw [x_mkf]
  subst h
  simp
end Sp
namespace Sp
open Go Go.RowKit
section
variable {P : Program} {σ : Env} {w : World} {d : Option Nat} {ty : TypeId} {pos : String} {af : Array Edge} {g : Option (Nat × Bool)} {v : Value}
theorem x_movV {x : Operand} (h : ev σ x = v) : (execOp (ev σ) ⟨d, .move x, ty, pos, af, g⟩).run P w = .ok (.value v) w := by rw [← h]; exact x_mov x
theorem x_asgV {x : Operand} (h : ev σ x = v) : (execOp (ev σ) ⟨d, .assign x, ty, pos, af, g⟩).run P w = .ok (.value v) w := by rw [← h]; exact x_asg x
theorem x_pickTV {c x y : Operand} {b : Bool} (hc : ev σ c = .bool b) (hb : b = true) (h : ev σ x = v) : (execOp (ev σ) ⟨d, .pick c x y, ty, pos, af, g⟩).run P w = .ok (.value v) w := by rw [← h]; exact x_pickT hc hb
theorem x_pickFV {c x y : Operand} {b : Bool} (hc : ev σ c = .bool b) (hb : b = false) (h : ev σ y = v) : (execOp (ev σ) ⟨d, .pick c x y, ty, pos, af, g⟩).run P w = .ok (.value v) w := by rw [← h]; exact x_pickF hc hb
end
end Sp
