/-
  Parts of the proof, merged: Eng0.
-/
import Derived.OrdersHeld
theorem obs {α β : Type} (a : α) (f : α → Option β) : (some a).bind f = f a := rfl
namespace Sp
open Go
abbrev Obl := List (Nat × (World → Prop))
def waits (ops : Array Oper) (j i : Nat) : Bool := match ops[j]? with
  | some o => o.after.any fun e => Region.binds .any e && e.on == i
  | none => false
section
variable {P : Program} {ops : Array Oper} {Q : Exit → Act → World → Prop}
def Obl.hold (O : Obl) (w : World) : Prop := ∀ p ∈ O, p.2 w
def Obl.past (ops : Array Oper) (j : Nat) (O : Obl) : Obl := O.filter fun p => !waits ops j p.1
def wpD (P : Program) (ops : Array Oper) (Q : Exit → Act → World → Prop) : Nat → Obl → Array Bool → Act → World → Prop
  | 0, _, listed, a, w => Region.ready .any ops listed = [] ∧ Q .normal a w
  | fuel + 1, O, listed, a, w =>
    (Region.ready .any ops listed = [] → Q .normal a w) ∧
    ∀ i ∈ Region.ready .any ops listed, wpOp P ops Q i (fun a' w' => (O.past ops i).hold w' ∧ wpD P ops Q fuel (O.past ops i) (listed.setIfInBounds i true) a' w') a w
theorem wpAny_of_D : ∀ (fuel : Nat) (O : Obl) (listed : Array Bool) (a : Act) (w : World), wpD P ops Q fuel O listed a w → wpAny P .any ops Q fuel listed a w
  | 0, _, _, _, _, h => h
  | fuel + 1, _, _, _, _, h => ⟨h.1, fun i hi => wpOp_mono (fun a' w' h' => wpAny_of_D fuel _ _ a' w' h'.2) (h.2 i hi)⟩
theorem wpD_weak : ∀ (fuel : Nat) (O O' : Obl) (listed : Array Bool) (a : Act) (w : World), (∀ p ∈ O', p ∈ O) → wpD P ops Q fuel O listed a w → wpD P ops Q fuel O' listed a w
  | 0, _, _, _, _, _, _, h => h
  | fuel + 1, O, O', listed, a, w, hs, h => ⟨h.1, fun i hi => wpOp_mono (fun a' w' h' => by
      have hp : ∀ p ∈ O'.past ops i, p ∈ O.past ops i := fun p hp => by
        simp only [Obl.past, List.mem_filter] at hp ⊢
        exact ⟨hs p hp.1, hp.2⟩
      exact ⟨fun p hq => h'.1 p (hp p hq), wpD_weak fuel _ _ _ a' w' hp h'.2⟩) (h.2 i hi)⟩
theorem past_sub {O : Obl} {j : Nat} {p : Nat × (World → Prop)} (h : p ∈ O.past ops j) : p ∈ O := (List.mem_filter.1 h).1
theorem wpD_first {i : Nat} {oi : Oper} {v : Value} {S : World → Prop} (hi : ops[i]? = some oi) (hsel : ∀ (j : Nat) (o : Oper) cs b, ops[j]? = some o → o.op ≠ .select cs b)
    (hQ : ∀ c a w, Q (.panic c) (a.put oi.dst v) w → Q (.panic c) a w) :
    ∀ (fuel : Nat) (O : Obl) (listed : Array Bool) (a : Act) (w : World),
      (∀ j oj, ops[j]? = some oj → j ≠ i → listed.getD j true = false → (∀ e ∈ oj.after, Region.binds .any e = true → e.on ≠ i) → oi.apart ops oj = true) →
      i ∈ Region.ready .any ops listed → YieldsIf P ops S oi v a → S w → O.hold w →
      wpD P ops Q fuel ((i, S) :: O) (listed.setIfInBounds i true) (a.put oi.dst v) w → wpD P ops Q (fuel + 1) O listed a w := by
  intro fuel
  induction fuel with
  | zero =>
    intro O listed a w _ hr hy hS hO H
    refine ⟨fun h => (by rw [h] at hr; cases hr), fun j hj => ?_⟩
    by_cases hji : j = i
    · subst hji; exact hy.wpOp hi hS ⟨fun p hp => hO p (past_sub hp), H⟩
    · have := ready_mono hj hji
      rw [H.1] at this
      cases this
  | succ fuel ih =>
    intro O listed a w hfree hr hy hS hO H
    refine ⟨fun h => (by rw [h] at hr; cases hr), fun j hj => ?_⟩
    by_cases hji : j = i
    · subst hji
      exact hy.wpOp hi hS ⟨fun p hp => hO p (past_sub hp), wpD_weak _ _ _ _ _ _ (fun p hp => List.mem_cons_of_mem _ (past_sub hp)) H⟩
    · have h1 := H.2 j (ready_mono hj hji)
      obtain ⟨hjun, oj, hoj, hall⟩ := mem_ready.1 hj
      have hnot : ∀ e ∈ oj.after, Region.binds .any e = true → e.on ≠ i := fun e he hb heq => by
        have h1 := hall e he hb
        have h0 := (mem_ready.1 hr).1
        rw [heq] at h1
        rcases Nat.lt_or_ge i listed.size with h' | h'
        · simp [h'] at h0 h1; rw [h0] at h1; cases h1
        · simp [Array.getElem?_eq_none h'] at h1
      have hwt : waits ops j i = false := by
        unfold waits
        simp only [hoj]
        rw [Array.any_eq_false']
        intro e he hb
        simp only [Bool.and_eq_true, beq_iff_eq] at hb
        exact hnot e he hb.1 hb.2
      have h2 := wpOp_putIf hoj (hfree j oj hoj hji hjun hnot) (fun cs b => hsel i oi cs b hi) (fun cs b => hsel j oj cs b hoj) hQ hy h1
      have hfree' : ∀ k ok, ops[k]? = some ok → k ≠ i → (listed.setIfInBounds j true).getD k true = false →
          (∀ e ∈ ok.after, Region.binds .any e = true → e.on ≠ i) → oi.apart ops ok = true := fun k ok hk hki hun hno => by
        refine hfree k ok hk hki ?_ hno
        by_cases hjk : j = k
        · subst hjk; exact hjun
        · rw [getD_set_ne true hjk] at hun; exact hun
      have hpast : Obl.past ops j ((i, S) :: O) = (i, S) :: Obl.past ops j O := by
        simp [Obl.past, hwt]
      refine wpOp_mono (fun a' w' h3 => ?_) h2
      obtain ⟨hy', hh, hc⟩ := h3
      rw [hpast] at hh hc
      have hO' : (Obl.past ops j O).hold w' := fun p hp => hh p (List.mem_cons_of_mem _ hp)
      refine ⟨hO', ih _ (listed.setIfInBounds j true) a' w' hfree' (ready_mono hr (Ne.symm hji)) hy' (hh _ (List.mem_cons_self ..)) hO' ?_⟩
      rw [Array.setIfInBounds_comm _ _ hji]
      exact hc
theorem wpD_add : ∀ {fuel : Nat} {O : Obl} {i : Nat} {listed : Array Bool} {a : Act} {w : World}, wpD P ops Q fuel O listed a w → wpD P ops Q fuel ((i, fun _ => True) :: O) listed a w := by
  have key : ∀ (fuel : Nat) (O O' : Obl) (listed : Array Bool) (a : Act) (w : World), (∀ p ∈ O', p ∈ O ∨ p.2 = fun _ => True) → wpD P ops Q fuel O listed a w → wpD P ops Q fuel O' listed a w := by
    intro fuel
    induction fuel with
    | zero => intro _ _ _ _ _ _ h; exact h
    | succ fuel ih =>
      intro O O' listed a w hs h
      refine ⟨h.1, fun i hi => wpOp_mono (fun a' w' h' => ?_) (h.2 i hi)⟩
      have hp : ∀ p ∈ O'.past ops i, p ∈ O.past ops i ∨ p.2 = fun _ => True := fun p hp => by
        simp only [Obl.past, List.mem_filter] at hp ⊢
        rcases hs p hp.1 with h1 | h1
        · exact .inl ⟨h1, hp.2⟩
        · exact .inr h1
      refine ⟨fun p hq => ?_, ih _ _ _ a' w' hp h'.2⟩
      rcases hp p hq with h1 | h1
      · exact h'.1 p h1
      · rw [h1]; trivial
  intro fuel O i listed a w h
  refine key fuel O _ listed a w (fun p hp => ?_) h
  rcases List.mem_cons.1 hp with rfl | hp
  · exact .inr rfl
  · exact .inl hp
theorem wpD_take {i : Nat} {oi : Oper} {v : Value} {S : World → Prop} {fuel : Nat} {O : Obl} {listed : Array Bool} {a : Act} {w : World} (hi : ops[i]? = some oi)
    (hs : Region.noSelect ops = true) (hf : Region.free .any ops listed i = true) (hr : (Region.ready .any ops listed).contains i = true)
    (hQ : ∀ c a w, Q (.panic c) (a.put oi.dst v) w → Q (.panic c) a w) (hy : YieldsIf P ops S oi v a) (hS : S w) (hO : O.hold w)
    (h : wpD P ops Q fuel ((i, S) :: O) (listed.setIfInBounds i true) (a.put oi.dst v) w) : wpD P ops Q (fuel + 1) O listed a w :=
  wpD_first hi (Region.noSelect_spec hs) hQ fuel O listed a w (Region.free_spec hi hf) (by simpa using hr) hy hS hO h
theorem wpD_all {rs : List Nat} {fuel : Nat} {O : Obl} {listed : Array Bool} {a : Act} {w : World} (hr : Region.ready .any ops listed = rs) (hne : rs ≠ [])
    (h : ∀ i ∈ rs, wpOp P ops Q i (fun a' w' => (O.past ops i).hold w' ∧ wpD P ops Q fuel (O.past ops i) (listed.setIfInBounds i true) a' w') a w) : wpD P ops Q (fuel + 1) O listed a w :=
  ⟨fun h0 => absurd (hr ▸ h0) hne, hr ▸ h⟩
theorem wpD_done {O : Obl} {listed : Array Bool} {a : Act} {w : World} (hr : Region.ready .any ops listed = []) (h : Q .normal a w) : ∀ fuel, wpD P ops Q fuel O listed a w
  | 0 => ⟨hr, h⟩
  | _ + 1 => ⟨fun _ => h, by rw [hr]; simp⟩
end
end Sp
