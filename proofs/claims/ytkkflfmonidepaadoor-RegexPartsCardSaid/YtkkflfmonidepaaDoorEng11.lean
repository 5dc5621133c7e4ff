/-
  MORE OF OWNED ARRAYS, POINTERS, OPEN ORDERS.
-/
import Derived.Test.YtkkflfmonidepaaDoorEng10
namespace Sp
open Go Go.RowKit

section
variable {P : Program} {σ : Env} {w : World} {I : IMem} {L : List It} {K : Env → World → Prop} {α : Type} {r : RTy α} {n : Nat}
variable {d : Option Nat} {ty : TypeId} {pos : String} {af : Array Edge} {g : Option (Nat × Bool)}

theorem AQ.pureE {A : Array Oper} {fuel : Nat} {O : Obl} {l : Array Bool} (i : Nat) {o : Oper} {X : Value → Prop} (ho : at? n A i = some o)
    (hs : Region.noSelect A = true) (hf : Region.free .any A l i = true) (hr : (Region.ready .any A l).contains i = true)
    (hg : gOK A σ o.guard = true) (hO : Hold O w) (hx : ∃ v, X v ∧ ∀ w, True → (execOp (ev σ) o).run P w = .ok (.value v) w)
    (h : ∀ v, X v → AQ P n A K fuel O (l.setIfInBounds i true) (σ.put o.dst v) w) : AQ P n A K (fuel + 1) O l σ w := by
  obtain ⟨v, h1, h2⟩ := hx
  exact AQ.pure i ho hs hf hr hg hO (fun w => h2 w trivial) (h v h1)

theorem Stab.loadV {Ls : List It} {v : Value} {T sz : Nat} {cs : List Value} {b n c : Nat} (h : Stab I Ls w) (i : Nat) (hi : Ls[i]? = some (.av v T sz cs)) (hv : v = .slice (some ⟨b, 0, none⟩) n c) {k : Nat} {u : Value} (hk : cs[k]? = some u) : w.cell? ⟨b, k, none⟩ = some u := by
  obtain ⟨J, L', _, S⟩ := h
  exact S.loadV i (by rw [List.getElem?_append_left (List.getElem?_eq_some_iff.1 hi).1]; exact hi) hv hk

theorem Own.nil_av (S : Own I w L) (T sz : Nat) : Own I w (.av (.slice none 0 0) T sz [] :: L) :=
  ⟨S.cell, S.blk, S.os, S.out, S.tape, fun y hy => by
    rcases List.mem_cons.1 hy with rfl | hy
    · exact ⟨rfl, rfl, rfl⟩
    · exact S.items y hy, List.pairwise_cons.2 ⟨fun _ _ _ hb => hb.elim, S.apart⟩⟩
theorem Flat.nil' (r : RTy α) (I : IMem) : Flat r I [] [] := rfl

theorem PtR.mk {b o : Nat} {cs : List Value} {x : α} (h : r.rep I cs x) (hc : At I b o cs) : PtR r I (.pointer (.some ⟨b, o, none⟩)) (.some x) := ⟨b, o, cs, rfl, h, hc⟩
theorem PtR.nil (r : RTy α) (I : IMem) : PtR r I (.pointer none) none := rfl
theorem PtR.at0 {b o : Nat} {cs : List Value} (h : At I b o cs) : At I b (o + 0) cs := h

end
end Sp
