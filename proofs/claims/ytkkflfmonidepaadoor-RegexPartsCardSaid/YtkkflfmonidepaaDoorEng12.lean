/-
  GUARDS THAT STAND ON WHAT WAS NEVER DONE.
-/
import Derived.Test.YtkkflfmonidepaaDoorEng11
namespace Sp
open Go Go.RowKit

section
variable {P : Program} {σ : Env} {w : World} {n : Nat}

theorem yielded_u {A : Array Oper} {a : Act} {j t : Nat} (ha : Rel n a σ) (ht : (A[j]?).bind (·.dst) = some t) (hx : σ t = undef) :
    yielded A a.tmps j = none := by
  have h := ha.get t
  rw [hx] at h
  unfold yielded
  rw [ht]
  simp only [Option.bind_some]
  cases hg : a.tmps[t]? with
  | none => rfl
  | some v => simp [Array.getD_eq_getD_getElem?, hg] at h; subst h; rfl

/-- A guard that was itself not done: nothing is done. -/
theorem OK.gu {A : Array Oper} {i j t : Nat} {b : Bool} {d : Option Nat} {op : Op} {ty : TypeId} {pos : String} {af : Array Edge} {K : Env → World → Prop}
    (ho : at? n A i = some ⟨d, op, ty, pos, af, some (j, b)⟩) (ht : (A[j]?).bind (·.dst) = some t) (hx : σ t = undef)
    (h : K (σ.put d undef) w) : OK P n A i K σ w := by
  obtain ⟨h1, h2⟩ := at?_spec ho
  intro a Q ha
  unfold wpOp
  have hw : Region.wanted (⟨d, op, ty, pos, af, some (j, b)⟩ : Oper) (yielded A a.tmps) = false := by
    unfold Region.wanted
    simp only [yielded_u ha ht hx]
    cases b <;> rfl
  simp only [h1, hw, Bool.false_eq_true, if_false]
  exact ⟨_, ha.put h2 _, h⟩

theorem AQ.skipU {A : Array Oper} {K : Env → World → Prop} {fuel : Nat} {O : Obl} {l : Array Bool} (i : Nat) {j t : Nat} {b : Bool} {d : Option Nat} {op : Op} {ty : TypeId} {pos : String} {af : Array Edge}
    (ho : at? n A i = some ⟨d, op, ty, pos, af, some (j, b)⟩)
    (hs : Region.noSelect A = true) (hf : Region.free .any A l i = true) (hr : (Region.ready .any A l).contains i = true)
    (ht : (A[j]?).bind (·.dst) = some t) (hxx : σ t = undef) (hO : Hold O w)
    (h : AQ P n A K fuel O (l.setIfInBounds i true) (σ.put d undef) w) : AQ P n A K (fuel + 1) O l σ w := by
  obtain ⟨h1, h2⟩ := at?_spec ho
  intro a Q hK hp ha
  refine wpD_take (S := fun _ => True) h1 hs hf hr (fun c a w hq => absurd hq (hp c _ w)) (.inr ⟨?_, rfl⟩) trivial hO.all (wpD_add (h _ Q hK hp (ha.put h2 undef)))
  unfold Region.wanted
  simp only [yielded_u ha ht hxx]
  cases b <;> rfl
end
end Sp
