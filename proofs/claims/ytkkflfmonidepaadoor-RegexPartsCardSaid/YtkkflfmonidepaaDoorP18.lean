/-
  WHAT A PIECE WITHOUT ENDS TAKES IS A MATTER OF THAT PART OF THE LIST ALONE.
-/
import Derived.Test.YtkkflfmonidepaaDoorP14
import Derived.Test.YtkkflfmonidepaaDoorP17
namespace Go.Proofs.YtkkflfmonidepaaDoor
open Sp
set_option maxRecDepth 100000
set_option maxHeartbeats 4000000

theorem wt_parts {x q : T_regex_piece} (h : q ∈ x.parts) : wt q < wt x := by
  obtain ⟨_, ps, ss, _⟩ := x
  simp only at h
  have : ∀ (l : List T_regex_piece), q ∈ l → wt q ≤ wts l := by
    intro l
    induction l with
    | nil => intro h; cases h
    | cons y l ih =>
      intro h
      simp only [wts]
      rcases List.mem_cons.1 h with rfl | h
      · omega
      · have := ih h; omega
  have := this ps h
  simp only [wt]
  omega
theorem schain_congr {R S : T_regex_piece → Nat → Nat → Prop} : ∀ (l : List T_regex_piece), (∀ x ∈ l, ∀ i j, R x i j ↔ S x i j) → ∀ i j, schain R l i j ↔ schain S l i j
  | [], _, _, _ => Iff.rfl
  | x :: l, h, i, j => by
    simp only [schain]
    have h1 := h x (List.mem_cons_self ..)
    have h2 := schain_congr l fun y hy => h y (List.mem_cons_of_mem _ hy)
    constructor
    · rintro ⟨m, a, b⟩; exact ⟨m, (h1 _ _).1 a, (h2 _ _).1 b⟩
    · rintro ⟨m, a, b⟩; exact ⟨m, (h1 _ _).2 a, (h2 _ _).2 b⟩
theorem star_congr {R S : Nat → Nat → Prop} (h : ∀ i j, R i j → S i j) {i j : Nat} (hs : Star R i j) : Star S i j := by
  induction hs with
  | refl i => exact .refl i
  | step a _ ih => exact .step (h _ _ a) ih

/-- Enough is enough. -/
theorem sem_eq (l : List Int) : ∀ (n m : Nat) (x : T_regex_piece), wt x ≤ n → wt x ≤ m → ∀ i j, Sem n l x i j ↔ Sem m l x i j
  | 0, _, x, h, _, _, _ => by have := wt_pos x; omega
  | _, 0, x, _, h, _, _ => by have := wt_pos x; omega
  | n + 1, m + 1, x, h1, h2, i, j => by
    have ih : ∀ q ∈ x.parts, ∀ i j, Sem n l q i j ↔ Sem m l q i j := fun q hq i j => by
      have := wt_parts hq
      exact sem_eq l n m q (by omega) (by omega) i j
    have st : ∀ q, x.parts = [q] → ∀ i j, Sem n l q i j ↔ Sem m l q i j := fun q hq => ih q (by rw [hq]; exact List.mem_cons_self ..)
    simp only [Sem]
    refine or_congr (and_congr Iff.rfl (schain_congr _ ih i j)) (or_congr (and_congr Iff.rfl ?_) (or_congr Iff.rfl (or_congr Iff.rfl (or_congr Iff.rfl (or_congr Iff.rfl (or_congr (and_congr Iff.rfl ?_) (or_congr (and_congr Iff.rfl ?_) (and_congr Iff.rfl ?_))))))))
    · constructor
      · rintro ⟨y, hy, h⟩; exact ⟨y, hy, (ih y hy _ _).1 h⟩
      · rintro ⟨y, hy, h⟩; exact ⟨y, hy, (ih y hy _ _).2 h⟩
    · constructor
      · rintro ⟨q, u, hq, a, b⟩; exact ⟨q, u, hq, (st q hq _ _).1 a, star_congr (fun i j => (st q hq i j).1) b⟩
      · rintro ⟨q, u, hq, a, b⟩; exact ⟨q, u, hq, (st q hq _ _).2 a, star_congr (fun i j => (st q hq i j).2) b⟩
    · constructor
      · rintro ⟨q, hq, b⟩; exact ⟨q, hq, star_congr (fun i j => (st q hq i j).1) b⟩
      · rintro ⟨q, hq, b⟩; exact ⟨q, hq, star_congr (fun i j => (st q hq i j).2) b⟩
    · constructor
      · rintro ⟨q, hq, b⟩; exact ⟨q, hq, b.imp id (st q hq i j).1⟩
      · rintro ⟨q, hq, b⟩; exact ⟨q, hq, b.imp id (st q hq i j).2⟩

theorem schain_le {S : T_regex_piece → Nat → Nat → Prop} (h : ∀ x i j, S x i j → i ≤ j) : ∀ (l : List T_regex_piece) (i j : Nat), schain S l i j → i ≤ j
  | [], i, j, e => Nat.le_of_eq e
  | x :: l, i, j, ⟨m, a, b⟩ => Nat.le_trans (h _ _ _ a) (schain_le h l m j b)
theorem star_le {R : Nat → Nat → Prop} (h : ∀ i j, R i j → i ≤ j) {i j : Nat} (hs : Star R i j) : i ≤ j := by
  induction hs with
  | refl i => exact Nat.le_refl _
  | step a _ ih => exact Nat.le_trans (h _ _ a) ih
theorem sem_le (l : List Int) : ∀ (n : Nat) (x : T_regex_piece) (i j : Nat), Sem n l x i j → i ≤ j
  | 0, _, _, _, h => h.elim
  | n + 1, x, i, j, h => by
    have ih := sem_le l n
    rcases h with ⟨_, h⟩ | ⟨_, y, _, h⟩ | ⟨_, rfl, _⟩ | ⟨_, rfl, _⟩ | ⟨_, rfl, _⟩ | ⟨_, rfl, _⟩ | ⟨_, q, m, _, h1, h2⟩ | ⟨_, q, _, h⟩ | ⟨_, q, _, rfl | h⟩
    · exact schain_le ih _ _ _ h
    · exact ih _ _ _ h
    · omega
    · omega
    · omega
    · omega
    · exact Nat.le_trans (ih _ _ _ h1) (star_le (ih q) h2)
    · exact star_le (ih q) h
    · omega
    · exact ih _ _ _ h

/-- A part of the list. -/
theorem sem_part (u m v : List Int) : ∀ (n : Nat) (x : T_regex_piece), na x = true → ∀ i j, j ≤ m.length → (Sem n m x i j ↔ Sem n (u ++ m ++ v) x (u.length + i) (u.length + j))
  | 0, _, _, _, _, _ => Iff.rfl
  | n + 1, x, hx, i, j, hj => by
    have le1 := sem_le m n
    have le2 := sem_le (u ++ m ++ v) n
    have ih : ∀ q ∈ x.parts, ∀ i j, j ≤ m.length → (Sem n m q i j ↔ Sem n (u ++ m ++ v) q (u.length + i) (u.length + j)) := fun q hq => sem_part u m v n q (nas_mem (na_parts hx) q hq)
    have one : ∀ q, x.parts = [q] → ∀ i j, j ≤ m.length → (Sem n m q i j ↔ Sem n (u ++ m ++ v) q (u.length + i) (u.length + j)) := fun q hq => ih q (by rw [hq]; exact List.mem_cons_self ..)
    have ch : ∀ ps : List T_regex_piece, (∀ q ∈ ps, ∀ i j, j ≤ m.length → (Sem n m q i j ↔ Sem n (u ++ m ++ v) q (u.length + i) (u.length + j))) → ∀ i j, j ≤ m.length → (schain (Sem n m) ps i j ↔ schain (Sem n (u ++ m ++ v)) ps (u.length + i) (u.length + j)) := by
      intro ps
      induction ps with
      | nil => intro _ i j _; simp only [schain]; omega
      | cons y ys ihy =>
        intro h i j hj
        simp only [schain]
        have h1 := h y (List.mem_cons_self ..)
        have h2 := ihy fun q hq => h q (List.mem_cons_of_mem _ hq)
        constructor
        · rintro ⟨c, a, b⟩
          have hc := schain_le le1 _ _ _ b
          exact ⟨u.length + c, (h1 _ _ (by omega)).1 a, (h2 _ _ hj).1 b⟩
        · rintro ⟨c, a, b⟩
          have hc1 := le2 _ _ _ a
          have hc := schain_le le2 _ _ _ b
          obtain ⟨c', rfl⟩ : ∃ c', c = u.length + c' := ⟨c - u.length, by omega⟩
          exact ⟨c', (h1 _ _ (by omega)).2 a, (h2 _ _ hj).2 b⟩
    have st : ∀ q, x.parts = [q] → ∀ i j, j ≤ m.length → (Star (Sem n m q) i j ↔ Star (Sem n (u ++ m ++ v) q) (u.length + i) (u.length + j)) := by
      intro q hq i j hj
      have h1 := one q hq
      constructor
      · intro h
        induction h with
        | refl i => exact .refl _
        | step a b ih' =>
          have hc := star_le (le1 q) b
          exact .step ((h1 _ _ (by omega)).1 a) (ih' hj)
      · intro h
        generalize hI : u.length + i = I at h
        generalize hJ : u.length + j = J at h
        induction h generalizing i with
        | refl I => obtain rfl : i = j := by omega
                    exact .refl _
        | @step I c J a b ih' =>
          subst hI
          have hc := star_le (le2 q) b
          have hc1 := le2 _ _ _ a
          obtain ⟨c', rfl⟩ : ∃ c', c = u.length + c' := ⟨c - u.length, by omega⟩
          exact .step ((h1 _ _ (by omega)).2 a) (ih' c' rfl hJ)
    have hat : ∀ i, i < m.length → (u ++ m ++ v)[u.length + i]? = m[i]? := fun i hi => by
      rw [List.append_assoc, List.getElem?_append_right (by omega), show u.length + i - u.length = i by omega, List.getElem?_append_left hi]
    obtain ⟨k5, k6⟩ := na_kind hx
    simp only [Sem]
    refine or_congr (and_congr Iff.rfl (ch _ ih i j hj)) (or_congr (and_congr Iff.rfl ?_) (or_congr (and_congr Iff.rfl ?_) (or_congr (and_congr Iff.rfl ?_) (or_congr ?_ (or_congr ?_ (or_congr (and_congr Iff.rfl ?_) (or_congr (and_congr Iff.rfl ?_) (and_congr Iff.rfl ?_))))))))
    · constructor
      · rintro ⟨y, hy, h⟩; exact ⟨y, hy, (ih y hy _ _ hj).1 h⟩
      · rintro ⟨y, hy, h⟩; exact ⟨y, hy, (ih y hy _ _ hj).2 h⟩
    · constructor
      · rintro ⟨rfl, w, h1, h2⟩
        exact ⟨by omega, w, by rw [hat i (by omega)]; exact h1, h2⟩
      · rintro ⟨h0, w, h1, h2⟩
        exact ⟨by omega, w, by rw [hat i (by omega)] at h1; exact h1, h2⟩
    · constructor
      · rintro ⟨rfl, h⟩; exact ⟨by omega, by simp; omega⟩
      · rintro ⟨h0, h⟩; exact ⟨by omega, by omega⟩
    · constructor
      · rintro ⟨h, _⟩; exact absurd h k5
      · rintro ⟨h, _⟩; exact absurd h k5
    · constructor
      · rintro ⟨h, _⟩; exact absurd h k6
      · rintro ⟨h, _⟩; exact absurd h k6
    · constructor
      · rintro ⟨q, c, hq, a, b⟩
        have hc := star_le (le1 q) b
        exact ⟨q, u.length + c, hq, (one q hq _ _ (by omega)).1 a, (st q hq _ _ hj).1 b⟩
      · rintro ⟨q, c, hq, a, b⟩
        have hc := star_le (le2 q) b
        have hc1 := le2 _ _ _ a
        obtain ⟨c', rfl⟩ : ∃ c', c = u.length + c' := ⟨c - u.length, by omega⟩
        exact ⟨q, c', hq, (one q hq _ _ (by omega)).2 a, (st q hq _ _ hj).2 b⟩
    · constructor
      · rintro ⟨q, hq, b⟩; exact ⟨q, hq, (st q hq _ _ hj).1 b⟩
      · rintro ⟨q, hq, b⟩; exact ⟨q, hq, (st q hq _ _ hj).2 b⟩
    · constructor
      · rintro ⟨q, hq, b⟩; exact ⟨q, hq, b.imp (fun h => by omega) (one q hq _ _ hj).1⟩
      · rintro ⟨q, hq, b⟩; exact ⟨q, hq, b.imp (fun h => by omega) (one q hq _ _ hj).2⟩

/-- What a whole list is taken by. -/
def Took (p : T_regex_piece) (l : List Int) : Prop := Sem (wt p) l p 0 l.length
theorem took_part {p : T_regex_piece} (hp : na p = true) (u m v : List Int) : Took p m ↔ Sem (wt p) (u ++ m ++ v) p u.length (u.length + m.length) := by
  have := sem_part u m v (wt p) p hp 0 m.length (Nat.le_refl _)
  exact this
end Go.Proofs.YtkkflfmonidepaaDoor
