/-
  Parts of the proof, merged: RX2, A0, A1, Opens.
-/
import Derived.Test.YtafnenafbognkaaGreatDoorW12
namespace Go.Proofs.YtafnenafbognkaaGreatDoor
open Sp
set_option maxRecDepth 100000
set_option maxHeartbeats 4000000
mutual
inductive NR (N : List T_r11_Node) : Int → T_pc → Prop
  | row {v : Int} {nd : T_r11_Node} {ps : List T_pc} : lat N v = some nd → nd.Kind = 114 → NRs N nd.Kids ps → NR N v ⟨0, ps, [], false⟩
  | choice {v : Int} {nd : T_r11_Node} {ps : List T_pc} : lat N v = some nd → nd.Kind = 99 → NRs N nd.Kids ps → NR N v ⟨1, ps, [], false⟩
  | set {v : Int} {nd : T_r11_Node} {k : Int} {ss : List T_regex_span} {b : Bool} : lat N v = some nd → nd.Kind = 115 → nd.From = ss.map (·.from_) → nd.To = ss.map (·.to_) → nd.Not = b → (k = 2 ∨ k = 4) → NR N v ⟨k, [], ss, b⟩
  | any {v : Int} {nd : T_r11_Node} : lat N v = some nd → nd.Kind = 46 → NR N v ⟨3, [], [], false⟩
  | start {v : Int} {nd : T_r11_Node} : lat N v = some nd → nd.Kind = 94 → NR N v ⟨5, [], [], false⟩
  | stop {v : Int} {nd : T_r11_Node} : lat N v = some nd → nd.Kind = 36 → NR N v ⟨6, [], [], false⟩
  | rep {v u k : Int} {nd : T_r11_Node} {q : T_pc} : lat N v = some nd → ((k = 7 ∧ nd.Kind = 42) ∨ (k = 8 ∧ nd.Kind = 43) ∨ (k = 9 ∧ nd.Kind = 63)) → nd.Kids = [u] → NR N u q → NR N v ⟨k, [q], [], false⟩
inductive NRs (N : List T_r11_Node) : List Int → List T_pc → Prop
  | nil : NRs N [] []
  | cons {v : Int} {vs : List Int} {p : T_pc} {ps : List T_pc} : NR N v p → NRs N vs ps → NRs N (v :: vs) (p :: ps)
end
def Grow (N N' : List T_r11_Node) : Prop := ∀ v nd, lat N v = some nd → lat N' v = some nd
mutual
theorem NR.mono {N N' : List T_r11_Node} (h : Grow N N') : ∀ {v : Int} {p : T_pc}, NR N v p → NR N' v p
  | _, _, .row h1 h2 h3 => .row (h _ _ h1) h2 (NRs.mono h h3)
  | _, _, .choice h1 h2 h3 => .choice (h _ _ h1) h2 (NRs.mono h h3)
  | _, _, .set h1 h2 h3 h4 h5 h6 => .set (h _ _ h1) h2 h3 h4 h5 h6
  | _, _, .any h1 h2 => .any (h _ _ h1) h2
  | _, _, .start h1 h2 => .start (h _ _ h1) h2
  | _, _, .stop h1 h2 => .stop (h _ _ h1) h2
  | _, _, .rep h1 h2 h3 h4 => .rep (h _ _ h1) h2 h3 (NR.mono h h4)
theorem NRs.mono {N N' : List T_r11_Node} (h : Grow N N') : ∀ {vs : List Int} {ps : List T_pc}, NRs N vs ps → NRs N' vs ps
  | _, _, .nil => .nil
  | _, _, .cons h1 h2 => .cons (NR.mono h h1) (NRs.mono h h2)
end
theorem NRs.app {N : List T_r11_Node} : ∀ {vs : List Int} {ps : List T_pc}, NRs N vs ps → ∀ {v : Int} {p : T_pc}, NR N v p → NRs N (vs ++ [v]) (ps ++ [p])
  | _, _, .nil, _, _, h => .cons h .nil
  | _, _, .cons h1 h2, _, _, h => .cons h1 (NRs.app h2 h)
theorem Grow.refl (N : List T_r11_Node) : Grow N N := fun _ _ h => h
theorem Grow.trans {A B C : List T_r11_Node} (h : Grow A B) (g : Grow B C) : Grow A C := fun v nd e => g v nd (h v nd e)
theorem Grow.app (N M : List T_r11_Node) : Grow N (N ++ M) := fun v nd h => by
  obtain ⟨h0, h1, h2⟩ := lat_ok h
  unfold lat
  rw [if_pos h0, List.getElem?_append_left (by omega)]
  exact h2
theorem sem_k24 {n : Nat} {l : List Int} {x : T_pc} {i j : Nat} (hx : x.kind = 2 ∨ x.kind = 4) : Sem (n + 1) l x i j ↔ j = i + 1 ∧ ∃ v, l[i]? = some v ∧ inS x v = true := by
  constructor
  · rintro (⟨hk, _⟩ | ⟨hk, _⟩ | ⟨_, h⟩ | ⟨hk, _⟩ | ⟨hk, _⟩ | ⟨hk, _⟩ | ⟨hk, _⟩ | ⟨hk, _⟩ | ⟨hk, _⟩)
    case inr.inr.inl => exact h
    all_goals (exfalso; omega)
  · intro h; exact .inr (.inr (.inl ⟨hx, h⟩))
theorem sem_k3 {n : Nat} {l : List Int} {x : T_pc} {i j : Nat} (hx : x.kind = 3) : Sem (n + 1) l x i j ↔ j = i + 1 ∧ i < l.length := by
  constructor
  · rintro (⟨hk, _⟩ | ⟨hk, _⟩ | ⟨hk | hk, _⟩ | ⟨_, h⟩ | ⟨hk, _⟩ | ⟨hk, _⟩ | ⟨hk, _⟩ | ⟨hk, _⟩ | ⟨hk, _⟩)
    case inr.inr.inr.inl => exact h
    all_goals (exfalso; omega)
  · intro h; exact .inr (.inr (.inr (.inl ⟨hx, h⟩)))
theorem sem_k8 {n : Nat} {l : List Int} {x : T_pc} {i j : Nat} (hx : x.kind = 8) : Sem (n + 1) l x i j ↔ ∃ q m, x.parts = [q] ∧ Sem n l q i m ∧ Star (Sem n l q) m j := by
  constructor
  · rintro (⟨hk, _⟩ | ⟨hk, _⟩ | ⟨hk | hk, _⟩ | ⟨hk, _⟩ | ⟨hk, _⟩ | ⟨hk, _⟩ | ⟨_, h⟩ | ⟨hk, _⟩ | ⟨hk, _⟩)
    case inr.inr.inr.inr.inr.inr.inl => exact h
    all_goals (exfalso; omega)
  · intro h; exact .inr (.inr (.inr (.inr (.inr (.inr (.inl ⟨hx, h⟩))))))
theorem sem_k7 {n : Nat} {l : List Int} {x : T_pc} {i j : Nat} (hx : x.kind = 7) : Sem (n + 1) l x i j ↔ ∃ q, x.parts = [q] ∧ Star (Sem n l q) i j := by
  constructor
  · rintro (⟨hk, _⟩ | ⟨hk, _⟩ | ⟨hk | hk, _⟩ | ⟨hk, _⟩ | ⟨hk, _⟩ | ⟨hk, _⟩ | ⟨hk, _⟩ | ⟨_, h⟩ | ⟨hk, _⟩)
    case inr.inr.inr.inr.inr.inr.inr.inl => exact h
    all_goals (exfalso; omega)
  · intro h; exact .inr (.inr (.inr (.inr (.inr (.inr (.inr (.inl ⟨hx, h⟩)))))))
theorem sem_k9 {n : Nat} {l : List Int} {x : T_pc} {i j : Nat} (hx : x.kind = 9) : Sem (n + 1) l x i j ↔ ∃ q, x.parts = [q] ∧ (i = j ∨ Sem n l q i j) := by
  constructor
  · rintro (⟨hk, _⟩ | ⟨hk, _⟩ | ⟨hk | hk, _⟩ | ⟨hk, _⟩ | ⟨hk, _⟩ | ⟨hk, _⟩ | ⟨hk, _⟩ | ⟨hk, _⟩ | ⟨_, h⟩)
    case inr.inr.inr.inr.inr.inr.inr.inr => exact h
    all_goals (exfalso; omega)
  · intro h; exact .inr (.inr (.inr (.inr (.inr (.inr (.inr (.inr ⟨hx, h⟩)))))))
theorem sem_in (l : List Int) : ∀ (n : Nat) (x : T_pc) (i j : Nat), Sem n l x i j → i ≤ l.length → j ≤ l.length
  | 0, _, _, _, h, _ => h.elim
  | n + 1, x, i, j, h, hi => by
    have ih := sem_in l n
    have ch : ∀ (ps : List T_pc) (i j : Nat), schain (Sem n l) ps i j → i ≤ l.length → j ≤ l.length := by
      intro ps
      induction ps with
      | nil => rintro i j rfl h; exact h
      | cons y ys ihy => rintro i j ⟨m, a, b⟩ h; exact ihy m j b (ih _ _ _ a h)
    have st : ∀ (q : T_pc) (i j : Nat), Star (Sem n l q) i j → i ≤ l.length → j ≤ l.length := by
      intro q i j h
      induction h with
      | refl i => exact id
      | step a _ ih2 => exact fun h => ih2 (ih _ _ _ a h)
    rcases h with ⟨_, h⟩ | ⟨_, y, _, h⟩ | ⟨_, rfl, v, h, _⟩ | ⟨_, rfl, h⟩ | ⟨_, rfl, _⟩ | ⟨_, rfl, _⟩ | ⟨_, q, m, _, h1, h2⟩ | ⟨_, q, _, h⟩ | ⟨_, q, _, rfl | h⟩
    · exact ch _ _ _ h hi
    · exact ih _ _ _ h hi
    · have := (List.getElem?_eq_some_iff.1 h).1; omega
    · omega
    · exact hi
    · exact hi
    · exact st _ _ _ h2 (ih _ _ _ h1 hi)
    · exact st _ _ _ h hi
    · exact hi
    · exact ih _ _ _ h hi
theorem in_l0 (nd : T_r11_Node) (x : Int) (ss : List T_regex_span) (h1 : nd.From = ss.map (·.from_)) (h2 : nd.To = ss.map (·.to_)) (hl : ss.length ≤ 1000) : ∀ (k i : Nat), i ≤ ss.length → ss.length + 1 ≤ k + i →
    ∃ o, r11_Node_in.l0 k nd x (i : Int) = some o ∧ o = if (ss.drop i).any (fun y => decide (x ≥ y.from_) && decide (x ≤ y.to_)) then .inl (!nd.Not) else .inr ()
  | 0, i, h3, h4 => by omega
  | k + 1, i, h3, h4 => by
    rw [r11_Node_in.l0, h1, h2, List.length_map]
    by_cases hi : i < ss.length
    · rw [if_pos (by omega), lat_nat, lat_nat, List.getElem?_map, List.getElem?_map, List.getElem?_eq_getElem hi]
      simp only [Option.map_some, obs, i64_nat (show i < 1000000 by omega)]
      obtain ⟨o, e, he⟩ := in_l0 nd x ss h1 h2 hl k (i + 1) (by omega) (by omega)
      rw [List.drop_eq_getElem_cons hi, List.any_cons]
      by_cases c1 : x ≥ ss[i].from_
      · rw [if_pos c1]
        by_cases c2 : x ≤ ss[i].to_
        · rw [if_pos c2]
          exact ⟨_, rfl, by simp [c1, c2]⟩
        · rw [if_neg c2]
          exact ⟨o, e, by rw [he]; simp [c2]⟩
      · rw [if_neg c1]
        exact ⟨o, e, by rw [he]; simp [c1]⟩
    · rw [if_neg (by omega)]
      exact ⟨_, rfl, by rw [List.drop_eq_nil_of_le (by omega)]; rfl⟩
theorem in_ok {k : Nat} {nd : T_r11_Node} {x : Int} {p : T_pc} (h1 : nd.From = p.spans.map (·.from_)) (h2 : nd.To = p.spans.map (·.to_)) (h3 : nd.Not = p.not) (hl : p.spans.length ≤ 1000) (hk : p.spans.length + 1 ≤ k) : r11_Node_in.f k nd x = some (inS p x) := by
  obtain ⟨o, e, he⟩ := in_l0 nd x p.spans h1 h2 hl k 0 (Nat.zero_le _) (by omega)
  rw [r11_Node_in.f, show (0 : Int) = ((0 : Nat) : Int) from rfl, e, obs]
  unfold inS
  rw [List.drop_zero, h3] at he
  rw [h3]
  by_cases hc : (p.spans.any fun y => decide (x ≥ y.from_) && decide (x ≤ y.to_)) = true
  · rw [if_pos hc] at he
    subst he
    rw [if_pos hc]
  · rw [if_neg hc] at he
    subst he
    rw [if_neg hc]
theorem nrs_len {N : List T_r11_Node} : ∀ {vs : List Int} {ps : List T_pc}, NRs N vs ps → vs.length = ps.length
  | _, _, .nil => rfl
  | _, _, .cons _ h => by simp [nrs_len h]
theorem star_iff {E : Mx} {R : Nat → Nat → Prop} {d : Nat} (hE : Dim d E) (h : ∀ i j, i < d → j < d → (bit E i j ↔ R i j)) (hR : ∀ i j, R i j → i < d → j < d) {i j : Nat} (hi : i < d) : Star (bit E) i j ↔ Star R i j := by
  constructor
  · intro hs
    induction hs with
    | refl i => exact .refl _
    | step a _ ih =>
      obtain ⟨h1, h2⟩ := bit_lt hE a
      exact .step ((h _ _ h1 h2).1 a) (ih h2)
  · intro hs
    induction hs with
    | refl i => exact .refl _
    | step a _ ih =>
      have h2 := hR _ _ a hi
      exact .step ((h _ _ hi h2).2 a) (ih h2)
section
variable {l : List Int} (hl : l.length ≤ 900) {S : ByteArray} {At : Int} {N : List T_r11_Node} {bad : Bool}
include hl
abbrev EndsOk (l : List Int) (S : ByteArray) (At : Int) (N : List T_r11_Node) (bad : Bool) (n : Nat) (v : Int) (p : T_pc) : Prop := ∀ k, 4 * l.length + 30 + 2 * wt p ≤ k → ∃ M, r11_P_ends.f k (some ⟨S, At, N, bad⟩) v l = some M ∧ Dim (l.length + 1) M ∧ ∀ i j, i < l.length + 1 → j < l.length + 1 → (bit M i j ↔ Sem n l p i j)
theorem ends_l0 (n b : Nat) (nd : T_r11_Node) (ih : ∀ v p, NR N v p → wt p ≤ b → EndsOk l S At N bad n v p) : ∀ (k i : Nat) (qs : List T_pc) (M : Mx), nd.Kids.length ≤ 100000 → NRs N (nd.Kids.drop i) qs → i ≤ nd.Kids.length → wts qs ≤ b → 4 * l.length + 31 + 2 * wts qs ≤ k → Dim (l.length + 1) M → (∀ i j, bit M i j → i ≤ j) →
    ∃ M', r11_P_ends.l0 k (some ⟨S, At, N, bad⟩) l nd M (i : Int) = some M' ∧ Dim (l.length + 1) M' ∧ ∀ i j, i < l.length + 1 → j < l.length + 1 → (bit M' i j ↔ ∃ m, bit M i m ∧ schain (Sem n l) qs m j)
  | 0, i, qs, M, _, _, _, _, h, _, _ => by omega
  | k + 1, i, qs, M, h0, h1, h2, h3, h4, hM, hle => by
    rw [r11_P_ends.l0]
    by_cases hi : i < nd.Kids.length
    · rw [if_pos (by omega), lat_nat, List.getElem?_eq_getElem hi, obs]
      rw [List.drop_eq_getElem_cons hi] at h1
      cases h1 with
      | @cons _ _ q qs hq hqs =>
        simp only [wts] at h3 h4
        have hwq := wt_pos q
        obtain ⟨E, e1, d1, f1⟩ := ih _ q hq (by omega) k (by omega)
        obtain ⟨T, e2, d2, f2⟩ := then_ok (d := l.length + 1) (by omega) hM d1 (k := k) (by omega) (by omega)
        rw [e1, obs, e2, obs, i64_nat (by omega)]
        have hle2 : ∀ i j, bit T i j → i ≤ j := fun i j hb => by
          obtain ⟨hi, hj⟩ := bit_lt d2 hb
          obtain ⟨e, a1, a2, _⟩ := (f2 i j hi hj).1 hb
          omega
        obtain ⟨M', e3, d3, f3⟩ := ends_l0 n b nd ih k (i + 1) qs T h0 hqs (by omega) (by omega) (by omega) d2 hle2
        refine ⟨M', e3, d3, fun i' j' hi' hj' => ?_⟩
        rw [f3 i' j' hi' hj']
        simp only [schain]
        constructor
        · rintro ⟨m, a1, a2⟩
          obtain ⟨_, hm⟩ := bit_lt d2 a1
          obtain ⟨e, b1, b2, b3, b4⟩ := (f2 i' m hi' hm).1 a1
          exact ⟨e, b3, m, (f1 e m (by omega) hm).1 b4, a2⟩
        · rintro ⟨e, b3, m, a1, a2⟩
          obtain ⟨_, he⟩ := bit_lt hM b3
          have b1 := hle _ _ b3
          have b2 := sem_le _ _ _ _ _ a1
          have hm := sem_in _ _ _ _ _ a1 (by omega)
          exact ⟨m, (f2 i' m hi' (by omega)).2 ⟨e, b1, b2, b3, (f1 e m he (by omega)).2 a1⟩, a2⟩
    · rw [if_neg (by omega)]
      rw [List.drop_eq_nil_of_le (by omega)] at h1
      cases h1
      refine ⟨M, rfl, hM, fun i' j' _ _ => ?_⟩
      simp only [schain]
      constructor
      · intro h; exact ⟨j', h, rfl⟩
      · rintro ⟨m, h, rfl⟩; exact h
theorem ends_l1 (n b : Nat) (nd : T_r11_Node) (ih : ∀ v p, NR N v p → wt p ≤ b → EndsOk l S At N bad n v p) : ∀ (k i : Nat) (qs : List T_pc) (M : Mx), nd.Kids.length ≤ 100000 → NRs N (nd.Kids.drop i) qs → i ≤ nd.Kids.length → wts qs ≤ b → 4 * l.length + 31 + 2 * wts qs ≤ k → Dim (l.length + 1) M →
    ∃ M', r11_P_ends.l1 k (some ⟨S, At, N, bad⟩) l nd M (i : Int) = some M' ∧ Dim (l.length + 1) M' ∧ ∀ i j, i < l.length + 1 → j < l.length + 1 → (bit M' i j ↔ bit M i j ∨ ∃ y ∈ qs, Sem n l y i j)
  | 0, i, qs, M, _, _, _, _, h, _ => by omega
  | k + 1, i, qs, M, h0, h1, h2, h3, h4, hM => by
    rw [r11_P_ends.l1]
    by_cases hi : i < nd.Kids.length
    · rw [if_pos (by omega), lat_nat, List.getElem?_eq_getElem hi, obs]
      rw [List.drop_eq_getElem_cons hi] at h1
      cases h1 with
      | @cons _ _ q qs hq hqs =>
        simp only [wts] at h3 h4
        have hwq := wt_pos q
        obtain ⟨E, e1, d1, f1⟩ := ih _ q hq (by omega) k (by omega)
        obtain ⟨T, e2, d2, f2⟩ := either_ok (d := l.length + 1) (by omega) hM d1 (k := k) (by omega) (by omega)
        rw [e1, obs, e2, obs, i64_nat (by omega)]
        obtain ⟨M', e3, d3, f3⟩ := ends_l1 n b nd ih k (i + 1) qs T h0 hqs (by omega) (by omega) (by omega) d2
        refine ⟨M', e3, d3, fun i' j' hi' hj' => ?_⟩
        rw [f3 i' j' hi' hj', f2 i' j' hi' hj', f1 i' j' hi' hj']
        simp [or_assoc]
    · rw [if_neg (by omega)]
      rw [List.drop_eq_nil_of_le (by omega)] at h1
      cases h1
      exact ⟨M, rfl, hM, fun i' j' _ _ => by simp⟩
theorem ends_l2 (hw : ∀ x ∈ l, 0 ≤ x ∧ x < 4294967296) (nd : T_r11_Node) (p : T_pc) (hp : (nd.Kind = 46 ∧ p.kind = 3) ∨ (nd.Kind = 115 ∧ (p.kind = 2 ∨ p.kind = 4) ∧ nd.From = p.spans.map (·.from_) ∧ nd.To = p.spans.map (·.to_) ∧ nd.Not = p.not ∧ p.spans.length ≤ 1000)) (n : Nat) : ∀ (k i : Nat) (M : Mx), i ≤ l.length → l.length + p.spans.length + 3 ≤ k + i → Dim (l.length + 1) M →
    ∃ M', r11_P_ends.l2 k l nd M (i : Int) = some M' ∧ Dim (l.length + 1) M' ∧ ∀ i' j', i' < l.length + 1 → j' < l.length + 1 → (bit M' i' j' ↔ if i ≤ i' ∧ i' < l.length ∧ j' = i' + 1 then Sem (n + 1) l p i' j' else bit M i' j')
  | 0, i, M, h1, h2, _ => by omega
  | k + 1, i, M, h1, h2, hM => by
    rw [r11_P_ends.l2]
    by_cases hi : i < l.length
    · rw [if_pos (by omega)]
      obtain ⟨row, r1, r2, r3⟩ := hM.row (i := i) (by omega)
      obtain ⟨x, x1, _⟩ := r3 (i + 1) (by omega)
      simp only [lat_nat, r1, obs, i64_nat (show i < 1000000 by omega), x1, Int.toNat_natCast]
      have fin : ∀ v : Bool, (v = true ↔ Sem (n + 1) l p i (i + 1)) → ∃ M', r11_P_ends.l2 k l nd (M.set i (row.set (i + 1) v)) ((i + 1 : Nat) : Int) = some M' ∧ Dim (l.length + 1) M' ∧ ∀ i' j', i' < l.length + 1 → j' < l.length + 1 → (bit M' i' j' ↔ if i ≤ i' ∧ i' < l.length ∧ j' = i' + 1 then Sem (n + 1) l p i' j' else bit M i' j') := by
        intro v hv
        obtain ⟨d1, d2⟩ := hM.set r1 (show i + 1 < l.length + 1 by omega) v
        obtain ⟨M', e, f1, f2⟩ := ends_l2 hw nd p hp n k (i + 1) _ (by omega) (by omega) d1
        refine ⟨M', e, f1, fun i' j' hi' hj' => ?_⟩
        rw [f2 i' j' hi' hj', d2, hv]
        by_cases c1 : i' = i
        · subst c1
          rw [if_neg (by omega)]
          by_cases c2 : j' = i' + 1
          · subst c2
            rw [if_pos ⟨Nat.le_refl _, hi, rfl⟩]
            simp
          · rw [if_neg (fun h => c2 h.2.2)]
            simp [c2]
        · by_cases c2 : i ≤ i' ∧ i' < l.length ∧ j' = i' + 1
          · rw [if_pos ⟨by omega, c2.2⟩, if_pos c2]
          · rw [if_neg (fun h => c2 ⟨by omega, h.2⟩), if_neg c2]
            simp [c1]
      rcases hp with ⟨k1, k2⟩ | ⟨k1, k2, k3, k4, k5, k6⟩
      · rw [if_pos k1]
        exact fin true ⟨fun _ => (sem_k3 k2).2 ⟨rfl, hi⟩, fun _ => rfl⟩
      · rw [if_neg (by rw [k1]; decide)]
        have hlt : l[i]? = some l[i] := List.getElem?_eq_getElem hi
        have hr := hw l[i] (List.getElem_mem hi)
        rw [hlt, obs, i64_id (by omega) (by omega), in_ok k3 k4 k5 k6 (by omega), obs]
        refine fin _ ⟨fun h => (sem_k24 k2).2 ⟨rfl, _, hlt, h⟩, fun h => ?_⟩
        obtain ⟨_, v, e1, e2⟩ := (sem_k24 k2).1 h
        rw [hlt] at e1
        obtain rfl := Option.some.inj e1
        exact e2
    · rw [if_neg (by omega)]
      refine ⟨M, rfl, hM, fun i' j' hi' hj' => ?_⟩
      rw [if_neg (by omega)]
theorem ends_n (hw : ∀ x ∈ l, 0 ≤ x ∧ x < 4294967296) : ∀ (n : Nat) (v : Int) (p : T_pc), NR N v p → wt p ≤ n → wt p ≤ 1000 → EndsOk l S At N bad (n + 1) v p
  | 0, v, p, _, h, _ => by have := wt_pos p; omega
  | n + 1, v, p, h, hp, hp' => by
    have ih := ends_n hw n
    intro k hk
    cases k with
    | zero => omega
    | succ k =>
      have hpar : ∀ {kd : Int} {ps : List T_pc} {b : Bool}, wt (⟨kd, ps, [], b⟩ : T_pc) = 1 + wts ps := fun {kd ps b} => by simp [wt]
      rw [r11_P_ends.f, obs]
      have st : ∀ own, ∃ M, r11_still.f k (l.length : Int) own = some M ∧ Dim (l.length + 1) M ∧ ∀ i j, i ≤ l.length → (bit M i j ↔ j = i ∧ own = true) := fun own => still_ok (by omega) (by omega)
      cases h with
      | @row _ nd ps h1 h2 h3 =>
        rw [hpar] at hp hk hp'
        rw [h1, obs, h2]
        obtain ⟨M, e1, d1, f1⟩ := st true
        have hlen := nrs_len h3
        have hwl := wts_len ps
        obtain ⟨M', e2, d2, f2⟩ := ends_l0 hl (n + 1) (min n 1000) nd (fun v p hv hw' => ih v p hv (by omega) (by omega)) k 0 ps M (by omega) h3 (Nat.zero_le _) (by omega) (by omega) d1 (fun i j hb => by
          obtain ⟨hi, _⟩ := bit_lt d1 hb
          have := (f1 i j (by omega)).1 hb
          omega)
        rw [show ((0 : Nat) : Int) = 0 from rfl] at e2
        rw [show ((114 : Int) == 114) = true from rfl, e1, obs, if_pos rfl, e2]
        refine ⟨M', rfl, d2, fun i j hi hj => ?_⟩
        rw [f2 i j hi hj, sem_k0 (n := n + 1) rfl]
        constructor
        · rintro ⟨m, a1, a2⟩
          obtain ⟨rfl, _⟩ := (f1 i m (by omega)).1 a1
          exact a2
        · intro a2
          exact ⟨i, (f1 i i (by omega)).2 ⟨rfl, rfl⟩, a2⟩
      | @choice _ nd ps h1 h2 h3 =>
        rw [hpar] at hp hk hp'
        rw [h1, obs, h2]
        obtain ⟨M, e1, d1, f1⟩ := st false
        have hlen := nrs_len h3
        have hwl := wts_len ps
        obtain ⟨M', e2, d2, f2⟩ := ends_l1 hl (n + 1) (min n 1000) nd (fun v p hv hw' => ih v p hv (by omega) (by omega)) k 0 ps M (by omega) h3 (Nat.zero_le _) (by omega) (by omega) d1
        rw [show ((0 : Nat) : Int) = 0 from rfl] at e2
        rw [show ((99 : Int) == 114) = false from rfl, e1, obs, if_neg (by decide), if_pos rfl, e2]
        refine ⟨M', rfl, d2, fun i j hi hj => ?_⟩
        rw [f2 i j hi hj, sem_k1 (n := n + 1) rfl, f1 i j (by omega)]
        simp
      | @set _ nd kd ss b h1 h2 h3 h4 h5 h6 =>
        simp only [wt, wts] at hp hk hp'
        rw [h1, obs, h2]
        obtain ⟨M, e1, d1, f1⟩ := st false
        obtain ⟨M', e2, d2, f2⟩ := ends_l2 hl hw nd ⟨kd, [], ss, b⟩ (.inr ⟨h2, h6, h3, h4, h5, by show ss.length ≤ 1000; omega⟩) (n + 1) k 0 M (Nat.zero_le _) (by show l.length + ss.length + 3 ≤ _; omega) d1
        rw [show ((0 : Nat) : Int) = 0 from rfl] at e2
        rw [show ((115 : Int) == 114) = false from rfl, e1, obs, if_neg (by decide), if_neg (by decide), if_pos rfl, obs, if_pos (by decide), e2]
        refine ⟨M', rfl, d2, fun i j hi hj => ?_⟩
        rw [f2 i j hi hj]
        split
        · exact Iff.rfl
        · rename_i hc
          rw [f1 i j (by omega), sem_k24 (n := n + 1) h6]
          constructor
          · rintro ⟨_, h⟩; cases h
          · rintro ⟨rfl, v, hv, _⟩
            have := (List.getElem?_eq_some_iff.1 hv).1
            exact absurd ⟨Nat.zero_le _, this, rfl⟩ hc
      | @any _ nd h1 h2 =>
        rw [hpar] at hp hk hp'
        rw [h1, obs, h2]
        obtain ⟨M, e1, d1, f1⟩ := st false
        obtain ⟨M', e2, d2, f2⟩ := ends_l2 hl hw nd ⟨3, [], [], false⟩ (.inl ⟨h2, rfl⟩) (n + 1) k 0 M (Nat.zero_le _) (by show l.length + 0 + 3 ≤ _; omega) d1
        rw [show ((0 : Nat) : Int) = 0 from rfl] at e2
        rw [show ((46 : Int) == 114) = false from rfl, e1, obs, if_neg (by decide), if_neg (by decide), if_neg (by decide), obs, if_pos (by decide), e2]
        refine ⟨M', rfl, d2, fun i j hi hj => ?_⟩
        rw [f2 i j hi hj]
        split
        · exact Iff.rfl
        · rename_i hc
          rw [f1 i j (by omega), sem_k3 (n := n + 1) rfl]
          constructor
          · rintro ⟨_, h⟩; cases h
          · rintro ⟨rfl, hv⟩
            exact absurd ⟨Nat.zero_le _, hv, rfl⟩ hc
      | @start _ nd h1 h2 =>
        rw [hpar] at hk
        rw [h1, obs, h2]
        obtain ⟨M, e1, d1, f1⟩ := st false
        obtain ⟨row, r1, r2, r3⟩ := d1.row (i := 0) (by omega)
        obtain ⟨x, x1, _⟩ := r3 0 (by omega)
        obtain ⟨d2, f2⟩ := d1.set r1 (show 0 < l.length + 1 by omega) true
        have z1 : lat M 0 = some row := by rw [show (0 : Int) = ((0 : Nat) : Int) from rfl, lat_nat]; exact r1
        have z2 : lat row 0 = some x := by rw [show (0 : Int) = ((0 : Nat) : Int) from rfl, lat_nat]; exact x1
        rw [show ((94 : Int) == 114) = false from rfl, e1, obs, if_neg (by decide), if_neg (by decide), if_neg (by decide), obs, if_neg (by decide), if_pos rfl, z1, obs, z2, obs]
        refine ⟨_, rfl, d2, fun i j hi hj => ?_⟩
        rw [show ((0 : Int)).toNat = 0 from rfl, f2, sem_k5 (n := n + 1) rfl, f1 i j (by omega)]
        constructor
        · rintro (⟨rfl, rfl, _⟩ | ⟨_, _, h⟩)
          · exact ⟨rfl, rfl⟩
          · cases h
        · rintro ⟨rfl, rfl⟩; exact .inl ⟨rfl, rfl, rfl⟩
      | @stop _ nd h1 h2 =>
        rw [hpar] at hk
        rw [h1, obs, h2]
        obtain ⟨M, e1, d1, f1⟩ := st false
        obtain ⟨row, r1, r2, r3⟩ := d1.row (i := l.length) (by omega)
        obtain ⟨x, x1, _⟩ := r3 l.length (by omega)
        obtain ⟨d2, f2⟩ := d1.set r1 (show l.length < l.length + 1 by omega) true
        rw [show ((36 : Int) == 114) = false from rfl, e1, obs, if_neg (by decide), if_neg (by decide), if_neg (by decide), obs, if_neg (by decide), if_neg (by decide), if_pos rfl, lat_nat, r1, obs, lat_nat, x1, obs]
        refine ⟨_, rfl, d2, fun i j hi hj => ?_⟩
        rw [Int.toNat_natCast, f2, sem_k6 (n := n + 1) rfl, f1 i j (by omega)]
        constructor
        · rintro (⟨rfl, rfl, _⟩ | ⟨_, _, h⟩)
          · exact ⟨rfl, rfl⟩
          · cases h
        · rintro ⟨rfl, rfl⟩; exact .inl ⟨rfl, rfl, rfl⟩
      | @rep _ u kd nd q h1 h2 h3 h4 =>
        rw [hpar] at hp hk hp'
        have hwq : wts [q] = wt q := by simp [wts]
        rw [hwq] at hp hk hp'
        rw [h1, obs]
        obtain ⟨E, e1, d1, f1⟩ := ih u q h4 (by omega) (by omega) k (by omega)
        have hEle : ∀ i j, bit E i j → i ≤ j := fun i j hb => by
          obtain ⟨hi, hj⟩ := bit_lt d1 hb
          exact sem_le _ _ _ _ _ ((f1 i j hi hj).1 hb)
        have hst : ∀ {i j : Nat}, i < l.length + 1 → (Star (bit E) i j ↔ Star (Sem (n + 1) l q) i j) := fun {i j} hi => star_iff d1 f1 (fun i j h hi => by have := sem_in _ _ _ _ _ h (by omega); omega) hi
        have z1 : lat nd.Kids 0 = some u := by rw [h3]; rfl
        obtain ⟨F0, g1, g2, g3⟩ := st false
        rcases h2 with ⟨rfl, hk2⟩ | ⟨rfl, hk2⟩ | ⟨rfl, hk2⟩
        · obtain ⟨T, e2, d2, f2⟩ := often_ok (d := l.length + 1) (by omega) d1 hEle (k := k) (by omega) (by omega)
          rw [hk2, show ((42 : Int) == 114) = false from rfl, g1, obs, if_neg (by decide), if_neg (by decide), if_neg (by decide), obs, if_neg (by decide), if_neg (by decide), if_neg (by decide), if_neg (by decide), if_pos rfl, z1, obs, e1, obs, e2]
          refine ⟨T, rfl, d2, fun i j hi hj => ?_⟩
          rw [f2 i j hi hj, sem_k7 (n := n + 1) rfl, hst hi]
          constructor
          · intro h; exact ⟨q, rfl, h⟩
          · rintro ⟨q', hq, h⟩
            obtain rfl := (List.cons.inj hq).1
            exact h
        · obtain ⟨T, e2, d2, f2⟩ := often_ok (d := l.length + 1) (by omega) d1 hEle (k := k) (by omega) (by omega)
          obtain ⟨U, e3, d3, f3⟩ := then_ok (d := l.length + 1) (by omega) d1 d2 (k := k) (by omega) (by omega)
          rw [hk2, show ((43 : Int) == 114) = false from rfl, g1, obs, if_neg (by decide), if_neg (by decide), if_neg (by decide), obs, if_neg (by decide), if_neg (by decide), if_neg (by decide), if_neg (by decide), if_neg (by decide), if_pos rfl, z1, obs, e1, obs, e2, obs, e3]
          refine ⟨U, rfl, d3, fun i j hi hj => ?_⟩
          rw [f3 i j hi hj, sem_k8 (n := n + 1) rfl]
          constructor
          · rintro ⟨m, b1, b2, b3, b4⟩
            exact ⟨q, m, rfl, (f1 i m hi (by omega)).1 b3, (hst (by omega)).1 ((f2 m j (by omega) hj).1 b4)⟩
          · rintro ⟨q', m, hq, b3, b4⟩
            obtain rfl := (List.cons.inj hq).1
            have hm := sem_in _ _ _ _ _ b3 (by omega)
            have hs := (hst (i := m) (j := j) (by omega)).2 b4
            exact ⟨m, sem_le _ _ _ _ _ b3, star_le' hEle hs, (f1 i m hi (by omega)).2 b3, (f2 m j (by omega) hj).2 hs⟩
        · obtain ⟨I, e2, d2, f2⟩ := st true
          obtain ⟨T, e3, d3, f3⟩ := either_ok (d := l.length + 1) (by omega) d2 d1 (k := k) (by omega) (by omega)
          rw [hk2, show ((63 : Int) == 114) = false from rfl, g1, obs, if_neg (by decide), if_neg (by decide), if_neg (by decide), obs, if_neg (by decide), if_neg (by decide), if_neg (by decide), if_pos rfl, z1, obs, e2, obs, e1, obs, e3]
          refine ⟨T, rfl, d3, fun i j hi hj => ?_⟩
          rw [f3 i j hi hj, sem_k9 (n := n + 1) rfl, f2 i j (by omega), f1 i j hi hj]
          constructor
          · rintro (⟨rfl, _⟩ | h)
            · exact ⟨q, rfl, .inl rfl⟩
            · exact ⟨q, rfl, .inr h⟩
          · rintro ⟨q', hq, h⟩
            obtain rfl := (List.cons.inj hq).1
            exact h.imp (fun h => ⟨h.symm, rfl⟩) id
end
theorem rm_l1 {M : Mx} {d : Nat} (hd : d ≤ 1000) (hM : Dim d M) (i : Nat) (hi : i < d) : ∀ (k j : Nat), j ≤ d → d + 1 ≤ k + j → ∃ o, r11_P_Match.l1 k M (i : Int) (j : Int) = some o ∧ (o = .inl true ∧ (∃ j', bit M i j') ∨ o = .inr () ∧ ∀ j', j ≤ j' → ¬ bit M i j')
  | 0, j, h1, h2 => by omega
  | k + 1, j, h1, h2 => by
    rw [r11_P_Match.l1, hM.1]
    by_cases hj : j < d
    · rw [if_pos (by omega)]
      obtain ⟨row, r1, r2, r3⟩ := hM.row hi
      obtain ⟨x, x1, x2⟩ := r3 j hj
      simp only [lat_nat, r1, x1, obs, i64_nat (show j < 1000000 by omega)]
      by_cases hx : x = true
      · rw [if_pos hx]
        exact ⟨_, rfl, .inl ⟨rfl, j, x2.1 hx⟩⟩
      · rw [if_neg hx]
        obtain ⟨o, e, h⟩ := rm_l1 hd hM i hi k (j + 1) (by omega) (by omega)
        refine ⟨o, e, h.imp id fun ⟨h3, h4⟩ => ⟨h3, fun j' hj' hb => ?_⟩⟩
        rcases Nat.lt_or_eq_of_le hj' with hj' | rfl
        · exact h4 j' hj' hb
        · exact hx (x2.2 hb)
    · rw [if_neg (by omega)]
      refine ⟨_, rfl, .inr ⟨rfl, fun j' hj' hb => ?_⟩⟩
      have := (bit_lt hM hb).2
      omega
theorem rm_l0 {M : Mx} {d : Nat} (hd : d ≤ 1000) (hM : Dim d M) : ∀ (k i : Nat), i ≤ d → 2 * d + 2 ≤ k + i → ∃ o, r11_P_Match.l0 k M (i : Int) = some o ∧ (o = .inl true ∧ (∃ i' j', bit M i' j') ∨ o = .inr () ∧ ∀ i' j', i ≤ i' → ¬ bit M i' j')
  | 0, i, h1, h2 => by omega
  | k + 1, i, h1, h2 => by
    rw [r11_P_Match.l0, hM.1]
    by_cases hi : i < d
    · rw [if_pos (by omega)]
      obtain ⟨o, e, h⟩ := rm_l1 hd hM i hi k 0 (Nat.zero_le _) (by omega)
      rw [show ((0 : Nat) : Int) = 0 from rfl] at e
      rw [e, obs]
      rcases h with ⟨rfl, j', h⟩ | ⟨rfl, h⟩
      · exact ⟨_, rfl, .inl ⟨rfl, i, j', h⟩⟩
      · simp only
        rw [i64_nat (by omega)]
        obtain ⟨o, e, h'⟩ := rm_l0 hd hM k (i + 1) (by omega) (by omega)
        refine ⟨o, e, h'.imp id fun ⟨h3, h4⟩ => ⟨h3, fun i' j' hi' hb => ?_⟩⟩
        rcases Nat.lt_or_eq_of_le hi' with hi' | rfl
        · exact h4 i' j' hi' hb
        · exact h j' (Nat.zero_le _) hb
    · rw [if_neg (by omega)]
      refine ⟨_, rfl, .inr ⟨rfl, fun i' j' hi' hb => ?_⟩⟩
      have := (bit_lt hM hb).1
      omega
theorem refmatch_ok {l : List Int} (hl : l.length ≤ 900) {S : ByteArray} {At : Int} {N : List T_r11_Node} {bad : Bool} (hw : ∀ x ∈ l, 0 ≤ x ∧ x < 4294967296) {k : Nat} (hk : 10000 ≤ k) {v : Int} {p : T_pc} (h : NR N v p) (hp : wt p ≤ 1000) : ∃ b, r11_P_Match.f k (some ⟨S, At, N, bad⟩) v l = some b ∧ (b = true ↔ ∃ i j, i ≤ l.length ∧ Sem (wt p) l p i j) := by
  obtain ⟨M, e, d1, f1⟩ := ends_n hl hw (S := S) (At := At) (bad := bad) (wt p) v p h (Nat.le_refl _) hp k (by omega)
  obtain ⟨o, e2, h2⟩ := rm_l0 (d := l.length + 1) (by omega) d1 k 0 (Nat.zero_le _) (by omega)
  rw [show ((0 : Nat) : Int) = 0 from rfl] at e2
  rw [r11_P_Match.f, e, obs, e2, obs]
  have hs : ∀ i j, Sem (wt p + 1) l p i j ↔ Sem (wt p) l p i j := fun i j => sem_eq l _ _ p (by omega) (Nat.le_refl _) i j
  rcases h2 with ⟨rfl, i, j, hb⟩ | ⟨rfl, h2⟩
  · refine ⟨true, rfl, ⟨fun _ => ?_, fun _ => rfl⟩⟩
    obtain ⟨hi, hj⟩ := bit_lt d1 hb
    exact ⟨i, j, by omega, (hs i j).1 ((f1 i j hi hj).1 hb)⟩
  · refine ⟨false, rfl, ⟨fun h => by (cases h), ?_⟩⟩
    rintro ⟨i, j, hi, hb⟩
    have hj := sem_in _ _ _ _ _ hb hi
    exact absurd ((f1 i j (by omega) (by omega)).2 ((hs i j).2 hb)) (h2 i j (Nat.zero_le _))
end Go.Proofs.YtafnenafbognkaaGreatDoor
namespace Go.Proofs.YtafnenafbognkaaGreatDoor
open Sp
set_option maxRecDepth 100000
set_option maxHeartbeats 4000000
def Lx (r : List UInt8) : Option (List T_sg) := lexS r [] []
theorem flush_map (pend : List UInt8) (acc : List T_sg) : flushS pend acc = (flushS pend []).map (acc ++ ·) := by
  unfold flushS
  split
  · simp
  · cases numOf pend <;> simp
theorem lex_map : ∀ (l pend : List UInt8) (acc : List T_sg), lexS l pend acc = (lexS l pend []).map (acc ++ ·)
  | [], pend, acc => by rw [lexS, lexS]; exact flush_map pend acc
  | c :: l, pend, acc => by
    by_cases hd : dig c
    · rw [lexS_dig hd, lexS_dig hd]; exact lex_map l _ acc
    · rw [lexS_non hd, lexS_non hd, flush_map pend acc]
      cases flushS pend [] with
      | none => rfl
      | some f =>
        simp only [Option.map_some, obs]
        have h : ∀ x : T_sg, lexS l [] (acc ++ f ++ [x]) = (lexS l [] (f ++ [x])).map (acc ++ ·) := fun x => by
          rw [lex_map l [] (acc ++ f ++ [x]), lex_map l [] (f ++ [x])]
          cases lexS l [] [] <;> simp
        split
        · exact h _
        · split
          · exact h _
          · rfl
theorem Lx_nil : Lx [] = some [] := by rw [Lx, lexS, flush_nil]
def blank (c : UInt8) : Prop := c.toNat = 32 ∨ c.toNat = 95
instance (c : UInt8) : Decidable (blank c) := by unfold blank; infer_instance
instance (c : UInt8) : Decidable (dig c) := by unfold dig; infer_instance
theorem blank_nd {c : UInt8} (h : blank c) : ¬ dig c := by unfold blank at h; unfold dig; omega
theorem Lx_blank {c : UInt8} {r : List UInt8} (h : blank c) : Lx (c :: r) = (Lx r).map (sgn 32 :: ·) := by
  rw [Lx, lexS_non (blank_nd h), flush_nil, obs]
  rw [if_pos (show c.toNat = 32 ∨ c.toNat = 95 from h), lex_map]
  rfl
theorem Lx_punct {c : UInt8} {r : List UInt8} (h1 : ¬ dig c) (h2 : ¬ blank c) (h3 : punctI c.toNat = true) : Lx (c :: r) = (Lx r).map (sgn c.toNat :: ·) := by
  rw [Lx, lexS_non h1, flush_nil, obs, if_neg (show ¬ (c.toNat = 32 ∨ c.toNat = 95) from h2), if_pos h3, lex_map]
  rfl
theorem Lx_none {c : UInt8} {r : List UInt8} (h1 : ¬ dig c) (h2 : ¬ blank c) (h3 : ¬ punctI c.toNat = true) : Lx (c :: r) = none := by
  rw [Lx, lexS_non h1, flush_nil, obs, if_neg (show ¬ (c.toNat = 32 ∨ c.toNat = 95) from h2), if_neg h3]
theorem Lx_num {d r : List UInt8} (hd : ∀ c ∈ d, dig c) (hne : d ≠ []) (hr : NDH r) : Lx (d ++ r) = (numOf d).bind fun m => (Lx r).map (⟨0, (m : Int), true⟩ :: ·) := by
  rw [Lx, lex_digs d [] r [] hd, List.nil_append]
  have hf : flushS d [] = (numOf d).map fun m => [⟨0, (m : Int), true⟩] := by
    unfold flushS
    rw [if_neg hne]
    rfl
  cases r with
  | nil =>
    rw [lexS, hf, Lx_nil]
    cases numOf d <;> simp
  | cons c r =>
    have hc := hr c r rfl
    rw [lexS_non hc, hf, Lx, lexS_non hc, flush_nil]
    cases numOf d with
    | none => rfl
    | some m =>
      simp only [Option.map_some, obs]
      split
      · rw [lex_map]; rw [lex_map r [] ([] ++ _)]
        cases lexS r [] [] <;> simp
      · split
        · rw [lex_map]; rw [lex_map r [] ([] ++ _)]
          cases lexS r [] [] <;> simp
        · rfl
def bsp : List UInt8 → List UInt8
  | [] => []
  | c :: r => if blank c then bsp r else c :: r
def hdb : List UInt8 → Int
  | [] => 0
  | c :: _ => (c.toNat : Int)
theorem bsp_bsp : ∀ r, bsp (bsp r) = bsp r
  | [] => rfl
  | c :: r => by
    by_cases h : blank c
    · simp only [bsp, if_pos h]; exact bsp_bsp r
    · simp only [bsp, if_neg h]
theorem bsp_head {r : List UInt8} {c : UInt8} {u : List UInt8} (h : bsp r = r) (e : r = c :: u) : ¬ blank c := by
  subst e
  intro hb
  simp only [bsp, if_pos hb] at h
  have : ∀ l : List UInt8, (bsp l).length ≤ l.length := by
    intro l
    induction l with
    | nil => exact Nat.le_refl _
    | cons x l ih =>
      simp only [bsp]
      split
      · simp only [List.length_cons]; omega
      · exact Nat.le_refl _
  have h2 := this u
  rw [h] at h2
  simp only [List.length_cons] at h2
  omega
theorem dig_split : ∀ (r : List UInt8), ∃ d u, r = d ++ u ∧ (∀ c ∈ d, dig c) ∧ NDH u
  | [] => ⟨[], [], rfl, fun _ h => by (cases h), NDH.nil⟩
  | c :: r => by
    by_cases h : dig c
    · obtain ⟨d, u, e, h1, h2⟩ := dig_split r
      exact ⟨c :: d, u, by rw [e]; rfl, fun x hx => by
        rcases List.mem_cons.1 hx with rfl | hx
        · exact h
        · exact h1 x hx, h2⟩
    · exact ⟨[], c :: r, rfl, fun _ h => by (cases h), NDH.cons h⟩
theorem Lx_bsp : ∀ r, Lx (bsp r) = (Lx r).map dsp
  | [] => by simp [bsp, Lx_nil, dsp]
  | c :: r => by
    by_cases h : blank c
    · simp only [bsp, if_pos h]
      rw [Lx_bsp r, Lx_blank h]
      cases Lx r with
      | none => rfl
      | some l => simp [dsp]
    · simp only [bsp, if_neg h]
      by_cases hd : dig c
      · obtain ⟨d, u, e, h1, h2⟩ := dig_split (c :: r)
        have hne : d ≠ [] := by
          rintro rfl
          exact h2 c r (by rw [e]; rfl) hd
        rw [e, Lx_num h1 hne h2]
        cases numOf d with
        | none => rfl
        | some m =>
          simp only [obs]
          cases Lx u with
          | none => rfl
          | some l => simp [dsp]
      · by_cases hp : punctI c.toNat = true
        · rw [Lx_punct hd h hp]
          cases Lx r with
          | none => rfl
          | some l =>
            have : ¬ (c.toNat : Int) = 32 := fun hc => h (.inl (by omega))
            simp [dsp, this]
        · rw [Lx_none hd h hp]; rfl
theorem sign_l0 (t : List UInt8) (ht : t.length ≤ 1000) (N : List T_r11_Node) (b : Bool) (a0 : Int) : ∀ (k a : Nat), a ≤ t.length → t.length < k + a → ∃ a', r11_P_sign.l0 k ⟨B t, a0, N, b⟩ (a : Int) = some ((a' : Nat) : Int) ∧ a ≤ a' ∧ a' ≤ t.length ∧ t.drop a' = bsp (t.drop a)
  | 0, a, h1, h2 => by omega
  | k + 1, a, h1, h2 => by
    rw [r11_P_sign.l0, B_size]
    by_cases ha : a < t.length
    · rw [if_pos (by omega), sat_B, List.getElem?_eq_getElem ha, Option.map_some, obs, i64_nat (by omega), obs]
      obtain ⟨a', e, g1, g2, g3⟩ := sign_l0 t ht N b a0 k (a + 1) (by omega) (by omega)
      rw [List.drop_eq_getElem_cons ha]
      by_cases c1 : ((t[a].toNat : Nat) : Int) = 32
      · rw [if_pos c1]
        refine ⟨a', e, by omega, g2, ?_⟩
        rw [g3, bsp, if_pos (.inl (by omega))]
      · rw [if_neg c1]
        by_cases c2 : ((t[a].toNat : Nat) : Int) = 95
        · rw [if_pos c2]
          refine ⟨a', e, by omega, g2, ?_⟩
          rw [g3, bsp, if_pos (.inr (by omega))]
        · rw [if_neg c2]
          refine ⟨a, rfl, Nat.le_refl _, h1, ?_⟩
          rw [List.drop_eq_getElem_cons ha, bsp, if_neg (fun h => by rcases h with h | h <;> omega)]
    · rw [if_neg (by omega)]
      refine ⟨a, rfl, Nat.le_refl _, h1, ?_⟩
      rw [List.drop_eq_nil_of_le (by omega)]
      rfl
theorem sign_ok {k : Nat} {t : List UInt8} {a : Nat} {N : List T_r11_Node} {b : Bool} (ht : t.length ≤ 1000) (ha : a ≤ t.length) (hk : t.length < k) : ∃ a', r11_P_sign.f k ⟨B t, (a : Int), N, b⟩ = some (hdb (t.drop a'), ⟨B t, ((a' : Nat) : Int), N, b⟩) ∧ a ≤ a' ∧ a' ≤ t.length ∧ t.drop a' = bsp (t.drop a) := by
  obtain ⟨a', e, h1, h2, h3⟩ := sign_l0 t ht N b a k a ha (by omega)
  refine ⟨a', ?_, h1, h2, h3⟩
  rw [r11_P_sign.f]
  simp only
  rw [e, obs, B_size]
  by_cases hc : a' = t.length
  · rw [if_pos (by omega), List.drop_eq_nil_of_le (by omega)]
    rfl
  · rw [if_neg (by omega), sat_B, List.getElem?_eq_getElem (by omega), Option.map_some, obs, List.drop_eq_getElem_cons (show a' < t.length by omega)]
    rfl
theorem sign_stay {k : Nat} {t : List UInt8} {a : Nat} {N : List T_r11_Node} {b : Bool} (ht : t.length ≤ 1000) (ha : a ≤ t.length) (hk : t.length < k) (hb : bsp (t.drop a) = t.drop a) : r11_P_sign.f k ⟨B t, (a : Int), N, b⟩ = some (hdb (t.drop a), ⟨B t, (a : Int), N, b⟩) := by
  obtain ⟨a', e, h1, h2, h3⟩ := sign_ok (k := k) (N := N) (b := b) ht ha hk
  have : a' = a := by
    have := congrArg List.length h3
    rw [hb, List.length_drop, List.length_drop] at this
    omega
  subst this
  exact e
theorem digit_ok (k : Nat) (c : Int) : r11_digit.f k c = some (decide (48 ≤ c ∧ c ≤ 57)) := by
  rw [r11_digit.f]
  by_cases h : c ≥ 48
  · rw [if_pos h]
    congr 1
    simp [h]
  · rw [if_neg h]
    congr 1
    simp; omega
theorem rput_ok {k : Nat} {S : ByteArray} {A : Int} {N : List T_r11_Node} {b : Bool} {nd : T_r11_Node} (hN : N.length ≤ 100000) : r11_P_put.f k ⟨S, A, N, b⟩ nd = some (((N.length : Nat) : Int), ⟨S, A, N ++ [nd], b⟩) ∧ lat (N ++ [nd]) ((N.length : Nat) : Int) = some nd := by
  constructor
  · rw [r11_P_put.f]
    simp only
    rw [app_small (by simp; omega) (by decide), obs]
    rw [List.length_append, List.length_singleton, i64_id (by omega) (by omega)]
    simp
  · rw [lat_nat]; simp
theorem cut_dig (d : Nat) (hd : d < 10) : scutLR (⟨#[48, 49, 50, 51, 52, 53, 54, 55, 56, 57]⟩) (d : Int) ((d + 1 : Nat) : Int) = some (B [UInt8.ofNat (48 + d)]) := by
  have h : ∀ d : Fin 10, scutLR (⟨#[48, 49, 50, 51, 52, 53, 54, 55, 56, 57]⟩) ((d.val : Nat) : Int) ((d.val + 1 : Nat) : Int) = some (B [UInt8.ofNat (48 + d.val)]) := by decide
  exact h ⟨d, hd⟩
theorem rtext_l0 : ∀ (k n : Nat) (s : List UInt8), 0 < n → n < 1000000000000 → (dec n).length < k → s.length + (dec n).length ≤ 1000 → r01_Text.l0 k (B s) (n : Int) = some (B (dec n ++ s))
  | 0, n, s, _, _, h, _ => by omega
  | k + 1, n, s, h0, h1, h2, h3 => by
    rw [r01_Text.l0, if_neg (by omega)]
    have hm : ((n : Int).tmod 10) = ((n % 10 : Nat) : Int) := rfl
    have hq : ((n : Int).tdiv 10) = ((n / 10 : Nat) : Int) := rfl
    have hp := dec_pos n
    rw [hm, hq, if_neg (by omega), i64_nat (by omega), cut_dig (n % 10) (Nat.mod_lt n (by decide)), obs, scat_B (by simp; omega), obs, i64_id (by omega) (by omega)]
    by_cases hz : n < 10
    · have hdec : dec n = [UInt8.ofNat (48 + n)] := by rw [dec, if_pos hz]
      rw [hdec] at h2
      have hk1 : 0 < k := by simp at h2; omega
      cases k with
      | zero => omega
      | succ k =>
        rw [r01_Text.l0, if_pos (by omega), hdec, show n % 10 = n by omega]
    · have hdec : dec n = dec (n / 10) ++ [UInt8.ofNat (48 + n % 10)] := by rw [dec, if_neg hz]
      have hlen : (dec n).length = (dec (n / 10)).length + 1 := by rw [hdec]; simp
      rw [rtext_l0 k (n / 10) _ (by omega) (by omega) (by omega) (by simp; omega), hdec]
      simp
theorem rtext_ok {k n : Nat} (hn : n < 1000000000000) (hk : 20 ≤ k) : r01_Text.f k (n : Int) = some (B (dec n)) := by
  rw [r01_Text.f]
  by_cases h0 : n = 0
  · subst h0
    rw [if_pos (by rfl), dec, if_pos (by decide)]
    rfl
  · rw [if_neg (by omega)]
    have hl := dec_len 11 n (by omega)
    have := rtext_l0 k n [] (by omega) hn (by omega) (by simp; omega)
    rw [show (⟨#[]⟩ : ByteArray) = B [] from rfl, this, obs, if_neg (by omega), List.append_nil]
theorem rint_l0 (l : List UInt8) (hd : ∀ c ∈ l, dig c) (hl : l.length ≤ 1000) : ∀ (k a i : Nat), i ≤ l.length → i ≤ 12 → 14 ≤ k + i → a < 10 ^ i → r01_Int.l0 k (B l) (a : Int) (i : Int) = some ((nv a ((l.take 12).drop i) : Nat) : Int) ∧ nv a ((l.take 12).drop i) < 1000000000000
  | 0, a, i, h1, h2, h3, _ => by omega
  | k + 1, a, i, h1, h2, h3, h4 => by
    rw [r01_Int.l0, B_size]
    have hpow : (10 : Nat) ^ i ≤ 10 ^ 12 := Nat.pow_le_pow_right (by decide) h2
    by_cases hi : i < l.length
    · rw [if_pos (by omega)]
      by_cases h12 : i < 12
      · rw [if_pos (by omega), sat_B, List.getElem?_eq_getElem hi, Option.map_some, obs]
        obtain ⟨d1, d2⟩ := hd l[i] (List.getElem_mem hi)
        have hpow2 : (10 : Nat) ^ (i + 1) ≤ 10 ^ 12 := Nat.pow_le_pow_right (by decide) h12
        have hps : (10 : Nat) ^ (i + 1) = 10 ^ i * 10 := Nat.pow_succ ..
        rw [i64_id (n := 10 * (a : Int)) (by omega) (by omega), i64_id (n := ((l[i].toNat : Nat) : Int)) (by omega) (by omega), i64_id (n := 10 * (a : Int) + ((l[i].toNat : Nat) : Int)) (by omega) (by omega), i64_id (by omega) (by omega), i64_nat (by omega)]
        rw [show 10 * (a : Int) + ((l[i].toNat : Nat) : Int) - 48 = ((10 * a + (l[i].toNat - 48) : Nat) : Int) by omega]
        have hdr : (l.take 12).drop i = l[i] :: (l.take 12).drop (i + 1) := by
          rw [List.drop_eq_getElem_cons (by simp; omega)]
          simp
        rw [hdr]
        exact rint_l0 l hd hl k _ (i + 1) (by omega) (by omega) (by omega) (by omega)
      · rw [if_neg (by omega)]
        rw [List.drop_eq_nil_of_le (by simp; omega)]
        exact ⟨rfl, by simp only [nv, List.foldl_nil]; omega⟩
    · rw [if_neg (by omega)]
      rw [List.drop_eq_nil_of_le (by simp; omega)]
      exact ⟨rfl, by simp only [nv, List.foldl_nil]; omega⟩
theorem nv_app (a : Nat) (x y : List UInt8) : nv a (x ++ y) = nv (nv a x) y := by simp [nv]
theorem rint_ok {k : Nat} {l : List UInt8} (hd : ∀ c ∈ l, dig c) (hl : l.length ≤ 1000) (hk : 30 ≤ k) : ∃ v ok, r01_Int.f k (B l) = some (v, ok) ∧ (∀ m, numOf l = some m → v = (m : Int) ∧ ok = true) ∧ (numOf l = none → ok = false) := by
  obtain ⟨e, hlt⟩ := rint_l0 l hd hl k 0 0 (Nat.zero_le _) (by decide) (by omega) (by decide)
  rw [show ((0 : Nat) : Int) = 0 from rfl] at e
  rw [List.drop_zero] at e hlt
  rw [r01_Int.f, e, obs, if_neg (by omega)]
  have hbig : nv 0 (l.take 12) ≤ nv 0 l := by
    conv => rhs; rw [← List.take_append_drop 12 l, nv_app]
    exact nv_le _ _
  -- a number has at most twelve digits
  have hnum : ∀ m, numOf l = some m → nv 0 (l.take 12) = m ∧ m ≤ 4294967295 ∧ dec m = l := by
    intro m hm
    unfold numOf at hm
    split at hm
    · rename_i hc
      obtain rfl := Option.some.inj hm
      refine ⟨?_, hc.1, hc.2⟩
      have := dec_len 9 (nv 0 l) (by omega)
      rw [hc.2] at this
      rw [List.take_of_length_le (by omega)]
    · cases hm
  by_cases hb : ((nv 0 (l.take 12) : Nat) : Int) > 4294967295
  · rw [if_pos hb]
    refine ⟨0, false, rfl, fun m hm => ?_, fun _ => rfl⟩
    obtain ⟨h1, h2, _⟩ := hnum m hm
    omega
  · rw [if_neg hb, rtext_ok (by omega) (by omega), obs]
    by_cases he : B (dec (nv 0 (l.take 12))) = B l
    · rw [if_pos he]
      have he' := B_inj he
      have h12 : l.take 12 = l := by
        have := dec_len 11 (nv 0 (l.take 12)) (by omega)
        rw [he'] at this
        exact List.take_of_length_le (by omega)
      rw [h12] at he' hb ⊢
      have hn : numOf l = some (nv 0 l) := by
        unfold numOf
        rw [if_pos ⟨by omega, he'⟩]
      refine ⟨_, true, rfl, fun m hm => ?_, fun h => ?_⟩
      · rw [hn] at hm
        obtain rfl := Option.some.inj hm
        exact ⟨rfl, rfl⟩
      · rw [hn] at h; cases h
    · rw [if_neg he]
      refine ⟨0, false, rfl, fun m hm => ?_, fun _ => rfl⟩
      obtain ⟨h1, h2, h3⟩ := hnum m hm
      rw [h1, h3] at he
      exact absurd rfl he
theorem num_l0 (t d u : List UInt8) (ht : t.length ≤ 1000) (N : List T_r11_Node) (b : Bool) (a0 : Int) (hu : NDH u) : ∀ (k a : Nat) (e : List UInt8), t.drop a = e ++ u → (∀ c ∈ e, dig c) → a ≤ t.length → t.length < k + a → r11_P_num.l0 k ⟨B t, a0, N, b⟩ (a : Int) = some ((a + e.length : Nat) : Int)
  | 0, a, e, _, _, h1, h2 => by omega
  | k + 1, a, e, he, hd, h1, h2 => by
    rw [r11_P_num.l0, B_size]
    by_cases ha : a < t.length
    · rw [if_pos (by omega), sat_B, List.getElem?_eq_getElem ha, Option.map_some, obs, digit_ok, obs]
      rw [List.drop_eq_getElem_cons ha] at he
      cases e with
      | nil =>
        have := hu _ _ he.symm
        rw [if_neg (by simp only [decide_eq_true_eq]; unfold dig at this; omega)]
        rfl
      | cons c e =>
        simp only [List.cons_append, List.cons.injEq] at he
        obtain ⟨h3, h4⟩ := he
        have hc := hd c (List.mem_cons_self ..)
        rw [if_pos (by simp only [decide_eq_true_eq]; rw [h3]; unfold dig at hc; omega), i64_nat (by omega)]
        rw [num_l0 t d u ht N b a0 hu k (a + 1) e h4 (fun x hx => hd x (List.mem_cons_of_mem _ hx)) (by omega) (by omega)]
        simp only [List.length_cons]
        congr 2
        omega
    · rw [if_neg (by omega)]
      rw [List.drop_eq_nil_of_le (by omega)] at he
      have : e = [] := by
        cases e with
        | nil => rfl
        | cons _ _ => simp at he
      subst this
      rfl
theorem num_ok {k : Nat} {t d u : List UInt8} {a : Nat} {N : List T_r11_Node} {b : Bool} (ht : t.length ≤ 1000) (ha : a ≤ t.length) (he : t.drop a = d ++ u) (hd : ∀ c ∈ d, dig c) (hu : NDH u) (hk : t.length + 30 ≤ k) :
    ∃ v ok, r11_P_num.f k ⟨B t, (a : Int), N, b⟩ = some (v, ⟨B t, ((a + d.length : Nat) : Int), N, b || !ok⟩) ∧ t.drop (a + d.length) = u ∧ a + d.length ≤ t.length ∧ (∀ m, numOf d = some m → v = (m : Int) ∧ ok = true) ∧ (numOf d = none → ok = false) := by
  have hlen : a + d.length ≤ t.length := by
    have := congrArg List.length he
    rw [List.length_drop, List.length_append] at this
    omega
  obtain ⟨v, ok, e, h1, h2⟩ := rint_ok (k := k) hd (by omega) (by omega)
  refine ⟨v, ok, ?_, ?_, hlen, h1, h2⟩
  · rw [r11_P_num.f]
    simp only
    rw [num_l0 t d u ht N b a hu k a d he hd ha (by omega), obs]
    have hc : scutLR (B t) (a : Int) ((a + d.length : Nat) : Int) = some (B d) := by
      unfold scutLR
      rw [if_pos ⟨by omega, by omega, by rw [B_size]; omega⟩, Int.toNat_natCast, Int.toNat_natCast, B_extract]
      congr 2
      rw [List.drop_take, he, show a + d.length - a = d.length by omega, List.take_left']
      rfl
    rw [hc, obs, e, obs]
    cases b <;> rfl
  · rw [← List.drop_drop, he, List.drop_left']
    rfl
theorem numOf_nil : numOf [] = none := by
  unfold numOf
  rw [if_neg]
  rintro ⟨_, h⟩
  have := dec_pos (nv 0 [])
  rw [h] at this
  exact absurd this (by decide)
end Go.Proofs.YtafnenafbognkaaGreatDoor
namespace Go.Proofs.YtafnenafbognkaaGreatDoor
open Sp
set_option maxRecDepth 100000
set_option maxHeartbeats 4000000
abbrev SetRes := Option (Sum (Int × T_r11_P) (ByteArray × Int × (List T_r11_Node) × Bool × (List Int) × (List Int)))
def rnumE (k : Nat) (b8 : Bool) (n16 : Int) (y50 : Int × T_r11_P) (l23 l26 : List Int) : SetRes :=
  ((r11_P_num.f k y50.2).bind fun y173 => (if y173.2.At < (y173.2.S.size : Int) then ((sat y173.2.S y173.2.At).bind fun y179 => ((if y179 = 45 then ((r11_P_num.f k (T_r11_P.mk y173.2.S (i64 (y173.2.At + 1)) y173.2.N y173.2.Bad)).bind fun y193 => (some (y193.1, y193.2.S, y193.2.At, y193.2.N, y193.2.Bad))) else (some (y173.1, y173.2.S, y173.2.At, y173.2.N, y173.2.Bad))).bind fun (n182, s183, n184, l185, b188) => (if b188 = true then ((Sp.app 8 l23 [y173.1]).bind fun l202 => ((Sp.app 8 l26 [n182]).bind fun l212 => (r11_P_set.l0 k b8 (i64 (n16 + 1)) s183 n184 l185 true l202 l212))) else ((Sp.app 8 l23 [y173.1]).bind fun l222 => ((Sp.app 8 l26 [n182]).bind fun l232 => (r11_P_set.l0 k b8 (i64 (n16 + 1)) s183 n184 l185 (decide (y173.1 > n182)) l222 l232)))))) else (if y173.2.Bad = true then ((Sp.app 8 l23 [y173.1]).bind fun l243 => ((Sp.app 8 l26 [y173.1]).bind fun l253 => (r11_P_set.l0 k b8 (i64 (n16 + 1)) y173.2.S y173.2.At y173.2.N true l243 l253))) else ((Sp.app 8 l23 [y173.1]).bind fun l263 => ((Sp.app 8 l26 [y173.1]).bind fun l273 => (r11_P_set.l0 k b8 (i64 (n16 + 1)) y173.2.S y173.2.At y173.2.N (decide (y173.1 > y173.1)) l263 l273))))))
theorem rset_unf (k : Nat) (b8 : Bool) (n16 : Int) (s : ByteArray) (n18 : Int) (l19 : List T_r11_Node) (l23 l26 : List Int) : r11_P_set.l0 (k + 1) b8 n16 s n18 l19 false l23 l26 =
    (if n16 ≤ (s.size : Int) then ((r11_P_sign.f k ⟨s, n18, l19, false⟩).bind fun y50 => (if y50.1 = 44 then r11_P_set.l0 k b8 (i64 (n16 + 1)) y50.2.S (i64 (y50.2.At + 1)) y50.2.N y50.2.Bad l23 l26
      else (if y50.1 = 93 then (if (l23.length : Int) > 0 then ((r11_P_put.f k ⟨y50.2.S, (i64 (y50.2.At + 1)), y50.2.N, y50.2.Bad⟩ ⟨115, [], l23, l26, b8, false⟩).bind fun y57 => (some (.inl (y57.1, y57.2))))
        else ((r11_digit.f k y50.1).bind fun y61 => (if y61 = true then rnumE k b8 n16 y50 l23 l26 else (r11_P_set.l0 k b8 (i64 (n16 + 1)) y50.2.S y50.2.At y50.2.N true l23 l26))))
      else ((r11_digit.f k y50.1).bind fun y170 => (if y170 = true then rnumE k b8 n16 y50 l23 l26 else (r11_P_set.l0 k b8 (i64 (n16 + 1)) y50.2.S y50.2.At y50.2.N true l23 l26)))))) else some (.inr (s, n18, l19, false, l23, l26))) := by
  rw [r11_P_set.l0]
  simp only [Bool.false_eq_true, if_false]
  rfl
theorem rset_bad (k : Nat) (b8 : Bool) (n16 : Int) (s : ByteArray) (n18 : Int) (l19 : List T_r11_Node) (l23 l26 : List Int) : r11_P_set.l0 (k + 1) b8 n16 s n18 l19 true l23 l26 = some (.inr (s, n18, l19, true, l23, l26)) := by
  rw [r11_P_set.l0, if_pos rfl]
  split <;> rfl
theorem Lx_ndh {u : List UInt8} (hu : NDH u) {l : List T_sg} (h : Lx u = some l) : l = [] ∨ (hd l).digits = false := by
  cases u with
  | nil => rw [Lx_nil] at h; exact .inl (Option.some.inj h).symm
  | cons c r =>
    have hc := hu c r rfl
    by_cases hb : blank c
    · rw [Lx_blank hb] at h
      obtain ⟨l', _, rfl⟩ := Option.map_eq_some_iff.1 h
      exact .inr rfl
    · by_cases hp : punctI c.toNat = true
      · rw [Lx_punct hc hb hp] at h
        obtain ⟨l', _, rfl⟩ := Option.map_eq_some_iff.1 h
        exact .inr rfl
      · rw [Lx_none hc hb hp] at h; cases h
theorem Lx_no45 {u : List UInt8} (hu : ∀ r, u ≠ 45 :: r) {l : List T_sg} (h : Lx u = some l) : l = [] ∨ (hd l).c ≠ 45 := by
  cases u with
  | nil => rw [Lx_nil] at h; exact .inl (Option.some.inj h).symm
  | cons c r =>
    by_cases hd' : dig c
    · obtain ⟨d, u, e, h1, h2⟩ := dig_split (c :: r)
      have hne : d ≠ [] := by
        rintro rfl
        exact h2 c r (by rw [e]; rfl) hd'
      rw [e, Lx_num h1 hne h2] at h
      obtain ⟨m, _, h⟩ := obx h
      obtain ⟨l', _, rfl⟩ := Option.map_eq_some_iff.1 h
      exact .inr (by show ¬ (0 : Int) = 45; decide)
    · by_cases hb : blank c
      · rw [Lx_blank hb] at h
        obtain ⟨l', _, rfl⟩ := Option.map_eq_some_iff.1 h
        exact .inr (by show ¬ (32 : Int) = 45; decide)
      · by_cases hp : punctI c.toNat = true
        · rw [Lx_punct hd' hb hp] at h
          obtain ⟨l', _, rfl⟩ := Option.map_eq_some_iff.1 h
          refine .inr ?_
          intro hc
          have hc' : ((c.toNat : Nat) : Int) = 45 := hc
          refine hu r ?_
          congr 1
          apply UInt8.toNat_inj.1
          show c.toNat = 45
          omega
        · rw [Lx_none hd' hb hp] at h; cases h
theorem punct45 : ¬ dig 45 ∧ ¬ blank 45 ∧ punctI ((45 : UInt8).toNat : Int) = true := by decide
theorem punct44 : ¬ dig 44 ∧ ¬ blank 44 ∧ punctI ((44 : UInt8).toNat : Int) = true := by decide
theorem punct93 : ¬ dig 93 ∧ ¬ blank 93 ∧ punctI ((93 : UInt8).toNat : Int) = true := by decide
theorem Lx_45 (r : List UInt8) : Lx (45 :: r) = (Lx r).map (sgn 45 :: ·) := Lx_punct punct45.1 punct45.2.1 punct45.2.2
theorem Lx_44 (r : List UInt8) : Lx (44 :: r) = (Lx r).map (sgn 44 :: ·) := Lx_punct punct44.1 punct44.2.1 punct44.2.2
theorem Lx_93 (r : List UInt8) : Lx (93 :: r) = (Lx r).map (sgn 93 :: ·) := Lx_punct punct93.1 punct93.2.1 punct93.2.2
abbrev dsn (m : Nat) : T_sg := ⟨0, (m : Int), true⟩
theorem rnum_ok {k i a : Nat} {b8 : Bool} {c : Int} {t d u : List UInt8} {N : List T_r11_Node} {F T : List Int} (ht : t.length ≤ 200) (ha : a ≤ t.length) (he : t.drop a = d ++ u) (hd : ∀ c ∈ d, dig c) (hne : d ≠ []) (hu : NDH u) (hk : t.length + 30 ≤ k) (hF : F.length ≤ 1000) (hT : T.length ≤ 1000) :
    ∃ (v v' : Int) (a' : Nat) (flag : Bool), rnumE k b8 (i : Int) (c, ⟨B t, (a : Int), N, false⟩) F T = r11_P_set.l0 k b8 (i64 ((i : Int) + 1)) (B t) ((a' : Nat) : Int) N flag (F ++ [v]) (T ++ [v']) ∧ a < a' ∧ a' ≤ t.length ∧
      (flag = false → ∃ m m' : Nat, v = m ∧ v' = m' ∧ m ≤ m' ∧ (Lx (t.drop a) = none → Lx (t.drop a') = none) ∧ ∀ l, Lx (t.drop a) = some l → ∃ lr, Lx (t.drop a') = some lr ∧ ((l = dsn m :: lr ∧ m' = m ∧ (lr = [] ∨ (Go.Proofs.YtafnenafbognkaaGreatDoor.hd lr).c ≠ 45)) ∨ l = dsn m :: sgn 45 :: dsn m' :: lr)) ∧
      (flag = true → ∀ l, Lx (t.drop a) = some l → ∃ m : Nat, (∃ lr, l = dsn m :: sgn 45 :: lr ∧ (lr = [] ∨ (Go.Proofs.YtafnenafbognkaaGreatDoor.hd lr).digits = false)) ∨ (∃ (m' : Nat) (lr : List T_sg), l = dsn m :: sgn 45 :: dsn m' :: lr ∧ m > m')) := by
  have hdl := List.length_pos_iff.2 hne
  obtain ⟨v, ok, e1, e2, e3, e4, e5⟩ := num_ok (k := k) (N := N) (b := false) (by omega) ha he hd hu hk
  simp only [Bool.false_or] at e1
  have hap : ∀ x : Int, Sp.app 8 F [x] = some (F ++ [x]) := fun x => app_small (by simp; omega) (by decide)
  have hap' : ∀ x : Int, Sp.app 8 T [x] = some (T ++ [x]) := fun x => app_small (by simp; omega) (by decide)
  have hL : Lx (t.drop a) = (numOf d).bind fun m => (Lx u).map (dsn m :: ·) := by rw [he]; exact Lx_num hd hne hu
  -- a number by itself
  have one : ∀ (X : SetRes), (∀ r, u ≠ 45 :: r) → X = (if (!ok) = true then r11_P_set.l0 k b8 (i64 ((i : Int) + 1)) (B t) ((a + d.length : Nat) : Int) N true (F ++ [v]) (T ++ [v]) else r11_P_set.l0 k b8 (i64 ((i : Int) + 1)) (B t) ((a + d.length : Nat) : Int) N (decide (v > v)) (F ++ [v]) (T ++ [v])) →
      ∃ (v v' : Int) (a' : Nat) (flag : Bool), X = r11_P_set.l0 k b8 (i64 ((i : Int) + 1)) (B t) ((a' : Nat) : Int) N flag (F ++ [v]) (T ++ [v']) ∧ a < a' ∧ a' ≤ t.length ∧
      (flag = false → ∃ m m' : Nat, v = m ∧ v' = m' ∧ m ≤ m' ∧ (Lx (t.drop a) = none → Lx (t.drop a') = none) ∧ ∀ l, Lx (t.drop a) = some l → ∃ lr, Lx (t.drop a') = some lr ∧ ((l = dsn m :: lr ∧ m' = m ∧ (lr = [] ∨ (Go.Proofs.YtafnenafbognkaaGreatDoor.hd lr).c ≠ 45)) ∨ l = dsn m :: sgn 45 :: dsn m' :: lr)) ∧
      (flag = true → ∀ l, Lx (t.drop a) = some l → ∃ m : Nat, (∃ lr, l = dsn m :: sgn 45 :: lr ∧ (lr = [] ∨ (Go.Proofs.YtafnenafbognkaaGreatDoor.hd lr).digits = false)) ∨ (∃ (m' : Nat) (lr : List T_sg), l = dsn m :: sgn 45 :: dsn m' :: lr ∧ m > m')) := by
    intro X h45 hX
    cases hn : numOf d with
    | none =>
      rw [e5 hn, if_pos (by rfl)] at hX
      refine ⟨v, v, a + d.length, true, hX, by omega, e3, fun h => by (cases h), fun _ l hl => ?_⟩
      rw [hL, hn] at hl
      cases hl
    | some m =>
      obtain ⟨rfl, rfl⟩ := e4 m hn
      rw [if_neg (by decide), show decide ((m : Int) > (m : Int)) = false by simp] at hX
      refine ⟨m, m, a + d.length, false, hX, by omega, e3, fun _ => ⟨m, m, rfl, rfl, Nat.le_refl _, fun hl => ?_, fun l hl => ?_⟩, fun h => by (cases h)⟩
      · rw [e2]
        rw [hL, hn, obs] at hl
        exact Option.map_eq_none_iff.1 hl
      · rw [e2]
        rw [hL, hn, obs] at hl
        obtain ⟨lr, h1, rfl⟩ := Option.map_eq_some_iff.1 hl
        exact ⟨lr, h1, .inl ⟨rfl, rfl, Lx_no45 h45 h1⟩⟩
  rw [rnumE]
  simp only
  rw [e1, obs]
  simp only [B_size]
  by_cases hlt : a + d.length < t.length
  · rw [if_pos (by omega), sat_B, List.getElem?_eq_getElem hlt, Option.map_some, obs]
    have hu' : u = t[a + d.length] :: t.drop (a + d.length + 1) := by rw [← e2]; exact List.drop_eq_getElem_cons hlt
    by_cases h45 : ((t[a + d.length].toNat : Nat) : Int) = 45
    · rw [if_pos h45, i64_nat (by omega)]
      have hc : t[a + d.length] = 45 := by
        apply UInt8.toNat_inj.1
        show _ = 45
        omega
      obtain ⟨d2, u2, f1, f2, f3⟩ := dig_split (t.drop (a + d.length + 1))
      obtain ⟨v2, ok2, g1, g2, g3, g4, g5⟩ := num_ok (k := k) (N := N) (b := !ok) (by omega) (show a + d.length + 1 ≤ t.length by omega) f1 f2 f3 hk
      rw [g1]
      simp only [obs, hap, hap']
      have hLu : Lx u = (Lx (d2 ++ u2)).map (sgn 45 :: ·) := by rw [hu', hc, f1, Lx_45]
      cases hn : numOf d with
      | none =>
        rw [e5 hn]
        rw [if_pos (by rfl)]
        refine ⟨_, _, _, true, rfl, by omega, g3, fun h => by (cases h), fun _ l hl => ?_⟩
        rw [hL, hn] at hl
        cases hl
      | some m =>
        obtain ⟨rfl, rfl⟩ := e4 m hn
        simp only [Bool.not_true, Bool.false_or]
        by_cases hd2 : d2 = []
        · subst hd2
          rw [g5 numOf_nil, if_pos (by rfl)]
          refine ⟨_, _, _, true, rfl, by omega, g3, fun h => by (cases h), fun _ l hl => ?_⟩
          rw [hL, hn, obs, hLu, Option.map_map] at hl
          obtain ⟨lr, h1, rfl⟩ := Option.map_eq_some_iff.1 hl
          exact ⟨m, .inl ⟨lr, rfl, Lx_ndh f3 h1⟩⟩
        · rw [Lx_num f2 hd2 f3] at hLu
          cases hn2 : numOf d2 with
          | none =>
            rw [g5 hn2, if_pos (by rfl)]
            refine ⟨_, _, _, true, rfl, by omega, g3, fun h => by (cases h), fun _ l hl => ?_⟩
            rw [hL, hn, obs, hLu, hn2] at hl
            cases hl
          | some m2 =>
            obtain ⟨rfl, rfl⟩ := g4 m2 hn2
            rw [hn2, obs] at hLu
            rw [if_neg (by decide)]
            refine ⟨_, _, _, decide ((m : Int) > (m2 : Int)), rfl, by omega, g3, fun hf => ⟨m, m2, rfl, rfl, ?_, fun hl => ?_, fun l hl => ?_⟩, fun hf l hl => ?_⟩
            · simp at hf; omega
            · rw [g2]
              rw [hL, hn, obs, hLu, Option.map_map, Option.map_map] at hl
              exact Option.map_eq_none_iff.1 hl
            · rw [g2]
              rw [hL, hn, obs, hLu, Option.map_map, Option.map_map] at hl
              obtain ⟨lr, h1, rfl⟩ := Option.map_eq_some_iff.1 hl
              exact ⟨lr, h1, .inr rfl⟩
            · rw [hL, hn, obs, hLu, Option.map_map, Option.map_map] at hl
              obtain ⟨lr, h1, rfl⟩ := Option.map_eq_some_iff.1 hl
              refine ⟨m, .inr ⟨m2, lr, rfl, ?_⟩⟩
              simp at hf; omega
    · rw [if_neg h45]
      refine one _ (fun r hr => ?_) ?_
      · rw [hr] at hu'
        have := (List.cons.inj hu').1
        rw [← this] at h45
        exact h45 rfl
      · simp only [obs, hap, hap']
  · rw [if_neg (by omega)]
    refine one _ (fun r hr => ?_) ?_
    · have := congrArg List.length e2
      rw [hr, List.length_drop] at this
      simp at this
      omega
    · simp only [obs, hap, hap']
def cdrop : List T_sg → List T_sg
  | [] => []
  | x :: l => if x.c = 32 ∨ x.c = 44 then cdrop l else x :: l
theorem cdrop_len : ∀ l, (cdrop l).length ≤ l.length
  | [] => Nat.le_refl _
  | x :: l => by
    unfold cdrop
    split
    · have := cdrop_len l; simp only [List.length_cons]; omega
    · exact Nat.le_refl _
theorem cdrop_dsp : ∀ l, cdrop (dsp l) = cdrop l
  | [] => rfl
  | x :: l => by
    by_cases h : x.c = 32
    · rw [dsp, if_pos h, cdrop, if_pos (.inl h)]; exact cdrop_dsp l
    · rw [dsp, if_neg h]
theorem dsp_cdrop : ∀ l, dsp (cdrop l) = cdrop l
  | [] => rfl
  | x :: l => by
    unfold cdrop
    split
    · exact dsp_cdrop l
    · rename_i h; rw [dsp, if_neg fun h' => h (.inl h')]
theorem sgs_cdrop : ∀ {l}, sgs l → sgs (cdrop l)
  | [], h => h
  | x :: l, h => by
    unfold cdrop
    split
    · exact sgs_cdrop fun y hy => h y (List.mem_cons_of_mem _ hy)
    · exact h
theorem l1_eq : ∀ (K : Nat) (l : List T_sg) (b : Bool), l.length + 1 < K → rr_set.l1 K l b = some (cdrop l, b)
  | 0, _, _, h => by omega
  | K + 1, l, b, h => by
    rw [rr_set.l1, peek_eq (by omega), obs]
    have dl := dsp_len l
    simp only
    by_cases hc : (hd (dsp l)).c = 44
    · rw [if_pos hc, next_eq (by omega), dsp_dsp, obs]
      have hne := hd_ne (.inl (by rw [hc]; decide))
      have hlt := tail_lt hne
      simp only
      rw [l1_eq K _ b (by omega)]
      congr 2
      rw [← cdrop_dsp l]
      cases h' : dsp l with
      | nil => exact absurd h' hne
      | cons x r =>
        rw [h'] at hc
        rw [cdrop, if_pos (.inr hc)]
        rfl
    · rw [if_neg hc]
      congr 2
      rw [← cdrop_dsp l]
      cases h' : dsp l with
      | nil => rfl
      | cons x r =>
        rw [h'] at hc
        rw [cdrop, if_neg]
        rintro (h3 | h3)
        · exact dsp_head h' h3
        · exact hc h3
section
variable {K : Nat} {nt' : Bool} {l : List T_sg} {ss : List T_regex_span} (hK : l.length + 3 < K) (hss : ss.length ≤ 100000)
include hK hss
theorem ps_one {m : Nat} {lr : List T_sg} (h : cdrop l = dsn m :: lr) (hr : lr = [] ∨ (hd lr).c ≠ 45) : rr_set.l0 (K + 1) nt' l false ss = rr_set.l0 K nt' lr false (ss ++ [⟨(m : Int), (m : Int)⟩]) := by
  have hl := cdrop_len l
  have hap : ∀ x : T_regex_span, Sp.app 8 ss [x] = some (ss ++ [x]) := fun x => app_small (by simp; omega) (by decide)
  have hds := dsp_cdrop l
  rw [rr_set.l0, l1_eq K l false (by omega), obs]
  simp only
  rw [next_eq (by omega), hds, h, obs]
  simp only [hd, List.tail_cons, if_true, hap, obs, gt_iff_lt, Int.lt_irrefl, decide_false]
  cases lr with
  | nil =>
    rw [if_neg (by decide), if_neg (by decide)]
  | cons x lr =>
    have hx : ¬ x.c = 45 := by
      rcases hr with hr | hr
      · cases hr
      · exact hr
    rw [if_pos (by simp only [List.length_cons]; omega), show lat (x :: lr) 0 = some x from rfl, obs, if_neg hx]
    simp only [obs, Bool.false_eq_true, if_false, gt_iff_lt, Int.lt_irrefl, decide_false]
theorem ps_two {m m' : Nat} {lr : List T_sg} (h : cdrop l = dsn m :: sgn 45 :: dsn m' :: lr) : rr_set.l0 (K + 1) nt' l false ss = rr_set.l0 K nt' lr (decide ((m : Int) > (m' : Int))) (ss ++ [⟨(m : Int), (m' : Int)⟩]) := by
  have hl := cdrop_len l
  have hap : ∀ x : T_regex_span, Sp.app 8 ss [x] = some (ss ++ [x]) := fun x => app_small (by simp; omega) (by decide)
  have hds := dsp_cdrop l
  rw [rr_set.l0, l1_eq K l false (by omega), obs]
  simp only
  rw [next_eq (by omega), hds, h, obs]
  rw [h] at hl
  simp only [List.length_cons] at hl
  simp only [hd, List.tail_cons, if_true]
  refine (if_pos (by simp only [List.length_cons]; omega)).trans ?_
  rw [show lat (sgn 45 :: dsn m' :: lr) 0 = some (sgn 45) from rfl, obs, if_pos (show (sgn 45).c = 45 from rfl)]
  rw [next_cons (r := dsn m' :: lr) (x := sgn 45) (by simp [dsp]) (by simp only [List.length_cons]; omega), obs]
  simp only
  rw [if_neg (show ¬ (((dsn m' :: lr).length : Nat) : Int) = 0 by simp only [List.length_cons]; omega), show lat (dsn m' :: lr) 0 = some (dsn m') from rfl, obs, if_pos (show (dsn m').digits = true from rfl)]
  rw [next_cons (r := lr) (x := dsn m') (by simp [dsp]) (by simp only [List.length_cons]; omega), obs]
  simp only [obs, Bool.false_eq_true, if_false, hap]
  rfl
end
theorem ps_half {K : Nat} {nt' : Bool} {l : List T_sg} {ss : List T_regex_span} (hK : l.length + 3 < K) {m : Nat} {lr : List T_sg} (h : cdrop l = dsn m :: sgn 45 :: lr) (hr : lr = [] ∨ (hd lr).digits = false) : rr_set.l0 (K + 1) nt' l false ss = some (.inl (⟨4, [], ss, nt'⟩, ⟨lr, true⟩)) := by
  have hl := cdrop_len l
  have hds := dsp_cdrop l
  rw [rr_set.l0, l1_eq K l false (by omega), obs]
  simp only
  rw [next_eq (by omega), hds, h, obs]
  rw [h] at hl
  simp only [List.length_cons] at hl
  simp only [hd, List.tail_cons, if_true]
  refine (if_pos (by simp only [List.length_cons]; omega)).trans ?_
  rw [show lat (sgn 45 :: lr) 0 = some (sgn 45) from rfl, obs, if_pos (show (sgn 45).c = 45 from rfl)]
  rw [next_cons (r := lr) (x := sgn 45) (by simp [dsp]) (by simp only [List.length_cons]; omega), obs]
  simp only
  cases lr with
  | nil => rfl
  | cons x lr =>
    have hx : x.digits = false := by
      rcases hr with hr | hr
      · cases hr
      · exact hr
    rw [if_neg (show ¬ (((x :: lr).length : Nat) : Int) = 0 by simp only [List.length_cons]; omega), show lat (x :: lr) 0 = some x from rfl, obs, if_neg (show ¬ x.digits = true by rw [hx]; decide)]
    rfl
theorem ps_end {K : Nat} {nt' : Bool} {l : List T_sg} {ss : List T_regex_span} (hK : l.length + 3 < K) (h : (hd (cdrop l)).digits = false) : rr_set.l0 (K + 1) nt' l false ss = some (.inl (⟨4, [], ss, nt'⟩, ⟨(cdrop l).tail, if (hd (cdrop l)).c = 93 then ((ss.length : Int) == 0) else true⟩)) := by
  have hl := cdrop_len l
  have hds := dsp_cdrop l
  rw [rr_set.l0, l1_eq K l false (by omega), obs]
  simp only
  rw [next_eq (by omega), hds, obs]
  simp only
  rw [if_neg (by rw [h]; decide), if_neg (by decide)]
  split <;> rfl
end Go.Proofs.YtafnenafbognkaaGreatDoor
namespace Go.Proofs.YtafnenafbognkaaGreatDoor
open Sp
set_option maxRecDepth 100000
set_option maxHeartbeats 4000000
def nodeS (ss : List T_regex_span) (b : Bool) : T_r11_Node := ⟨115, [], ss.map (·.from_), ss.map (·.to_), b, false⟩
theorem drop_succ {t : List UInt8} {a : Nat} {c : UInt8} {r : List UInt8} (h : t.drop a = c :: r) : t.drop (a + 1) = r ∧ a < t.length := by
  have hl := congrArg List.length h
  simp only [List.length_drop, List.length_cons] at hl
  refine ⟨?_, by omega⟩
  rw [← List.drop_drop, h]
  rfl
theorem byte_eq {c : UInt8} {n : Nat} (hn : n < 256) (h : ((c.toNat : Nat) : Int) = (n : Int)) : c = UInt8.ofNat n := by
  apply UInt8.toNat_inj.1
  rw [UInt8.toNat_ofNat']
  omega
theorem Lx_sg {r : List UInt8} {l : List T_sg} (h : Lx r = some l) : sgs l ∧ l.length ≤ r.length := by
  have := lex_sgs r [] [] l h (fun _ h => by cases h)
  exact ⟨this.1, by simpa using this.2⟩
theorem cdrop_dsn (m : Nat) (l : List T_sg) : cdrop (dsn m :: l) = dsn m :: l := by
  rw [cdrop, if_neg]
  rintro (h | h)
  · exact absurd (show (0 : Int) = 32 from h) (by decide)
  · exact absurd (show (0 : Int) = 44 from h) (by decide)
theorem rset_l0 {t : List UInt8} (ht : t.length ≤ 200) (b8 : Bool) : ∀ (k a i : Nat) (N : List T_r11_Node) (ss : List T_regex_span), a ≤ t.length → i ≤ a → t.length + 40 + (t.length - a) ≤ k → N.length ≤ 10000 → ss.length + (t.length - a) ≤ 500 →
    (∃ (a' : Nat) (ss' : List T_regex_span), r11_P_set.l0 k b8 (i : Int) (B t) (a : Int) N false (ss.map (·.from_)) (ss.map (·.to_)) = some (.inl (((N.length : Nat) : Int), ⟨B t, ((a' : Nat) : Int), N ++ [nodeS ss' b8], false⟩)) ∧ a < a' ∧ a' ≤ t.length ∧ (Lx (t.drop a) = none → Lx (t.drop a') = none) ∧
      ∀ l0, Lx (t.drop a) = some l0 → ∀ (K : Nat) (l : List T_sg), cdrop l = cdrop l0 → l.length + 4 < K → ∃ r, rr_set.l0 K b8 l false ss = some (.inl (⟨4, [], ss', b8⟩, ⟨r, false⟩)) ∧ Lx (t.drop a') = some r) ∨
    (∃ (a' : Nat) (b : Bool) (F T : List Int), r11_P_set.l0 k b8 (i : Int) (B t) (a : Int) N false (ss.map (·.from_)) (ss.map (·.to_)) = some (.inr (B t, ((a' : Nat) : Int), N, b, F, T)) ∧ a ≤ a' ∧ a' ≤ t.length ∧
      ∀ l0, Lx (t.drop a) = some l0 → ∀ (K : Nat) (l : List T_sg), cdrop l = cdrop l0 → sgs l → l.length ≤ 500 → l.length + 4 < K → ∃ p r, rr_set.l0 K b8 l false ss = some (.inl (p, r)) ∧ r.bad = true)
  | 0, a, i, N, ss, h1, h2, h3, _, _ => by omega
  | k + 1, a, i, N, ss, h1, h2, h3, h4, h5 => by
    have hkk : ∃ k', k = k' + 1 := ⟨k - 1, by omega⟩
    obtain ⟨a1, es, s1, s2, s3⟩ := sign_ok (k := k) (N := N) (b := false) (show t.length ≤ 1000 by omega) h1 (by omega)
    have hLx := Lx_bsp (t.drop a)
    rw [← s3] at hLx
    rw [rset_unf, B_size, if_pos (by omega), es, obs]
    simp only
    -- a fault
    have bad : ∀ (X : SetRes), X = r11_P_set.l0 k b8 (i64 ((i : Int) + 1)) (B t) ((a1 : Nat) : Int) N true (ss.map (·.from_)) (ss.map (·.to_)) → (∀ l0, Lx (t.drop a) = some l0 → (hd (cdrop l0)).digits = false ∧ ((hd (cdrop l0)).c = 93 → ss = [])) →
        (∃ (a' : Nat) (b : Bool) (F T : List Int), X = some (.inr (B t, ((a' : Nat) : Int), N, b, F, T)) ∧ a ≤ a' ∧ a' ≤ t.length ∧
        ∀ l0, Lx (t.drop a) = some l0 → ∀ (K : Nat) (l : List T_sg), cdrop l = cdrop l0 → sgs l → l.length ≤ 500 → l.length + 4 < K → ∃ p r, rr_set.l0 K b8 l false ss = some (.inl (p, r)) ∧ r.bad = true) := by
      intro X hX hl
      obtain ⟨k', rfl⟩ := hkk
      rw [rset_bad] at hX
      refine ⟨a1, true, _, _, hX, s1, s2, fun l0 hl0 K l hc _ _ hK => ?_⟩
      obtain ⟨g1, g2⟩ := hl l0 hl0
      rw [← hc] at g1 g2
      cases K with
      | zero => omega
      | succ K =>
        refine ⟨_, _, ps_end (by omega) g1, ?_⟩
        show (if (hd (cdrop l)).c = 93 then ((ss.length : Int) == 0) else true) = true
        split
        · rename_i h93
          rw [g2 h93]
          rfl
        · rfl
    cases hr : t.drop a1 with
    | nil =>
      rw [hr] at hLx
      rw [show hdb [] = 0 from rfl, if_neg (by decide), if_neg (by decide), digit_ok, obs, if_neg (by decide)]
      refine .inr (bad _ rfl fun l0 hl0 => ?_)
      rw [Lx_nil, hl0, Option.map_some, Option.some.injEq] at hLx
      rw [← cdrop_dsp, ← hLx]
      exact ⟨rfl, fun h => absurd h (by decide)⟩
    | cons c r =>
      obtain ⟨d1, d2⟩ := drop_succ hr
      have hnb : ¬ blank c := bsp_head (show bsp (t.drop a1) = t.drop a1 by rw [s3, bsp_bsp]) hr
      rw [show hdb (c :: r) = (c.toNat : Int) from rfl]
      by_cases h44 : ((c.toNat : Nat) : Int) = 44
      · rw [if_pos h44, i64_nat (by omega), i64_nat (by omega)]
        have hc := byte_eq (n := 44) (by decide) h44
        have hLr : Lx (t.drop a1) = (Lx (t.drop (a1 + 1))).map (sgn 44 :: ·) := by rw [hr, hc, d1]; exact Lx_44 r
        rw [hLr] at hLx
        have tok : ∀ l0, Lx (t.drop a) = some l0 → ∃ lu, Lx (t.drop (a1 + 1)) = some lu ∧ cdrop l0 = cdrop lu := fun l0 hl0 => by
          rw [hl0, Option.map_some] at hLx
          obtain ⟨lu, e1, e2⟩ := Option.map_eq_some_iff.1 hLx
          refine ⟨lu, e1, ?_⟩
          rw [← cdrop_dsp l0, ← e2, cdrop, if_pos (.inr rfl)]
        rcases rset_l0 ht b8 k (a1 + 1) (i + 1) N ss (by omega) (by omega) (by omega) h4 (by omega) with ⟨a', ss', e, g1, g2, g3, g4⟩ | ⟨a', b, F, T, e, g1, g2, g3⟩
        · refine .inl ⟨a', ss', e, by omega, g2, fun hn => g3 ?_, fun l0 hl0 K l hc hK => ?_⟩
          · rw [hn] at hLx
            exact Option.map_eq_none_iff.1 hLx
          · obtain ⟨lu, e1, e2⟩ := tok l0 hl0
            exact g4 lu e1 K l (hc.trans e2) hK
        · refine .inr ⟨a', b, F, T, e, by omega, g2, fun l0 hl0 K l hc hs hl hK => ?_⟩
          obtain ⟨lu, e1, e2⟩ := tok l0 hl0
          exact g3 lu e1 K l (hc.trans e2) hs hl hK
      · rw [if_neg h44]
        by_cases h93 : ((c.toNat : Nat) : Int) = 93
        · rw [if_pos h93]
          have hc := byte_eq (n := 93) (by decide) h93
          have hLr : Lx (t.drop a1) = (Lx (t.drop (a1 + 1))).map (sgn 93 :: ·) := by rw [hr, hc, d1]; exact Lx_93 r
          rw [hLr] at hLx
          have tok : ∀ l0, Lx (t.drop a) = some l0 → ∃ lu, Lx (t.drop (a1 + 1)) = some lu ∧ cdrop l0 = sgn 93 :: lu := fun l0 hl0 => by
            rw [hl0, Option.map_some] at hLx
            obtain ⟨lu, e1, e2⟩ := Option.map_eq_some_iff.1 hLx
            refine ⟨lu, e1, ?_⟩
            rw [← cdrop_dsp l0, ← e2, cdrop, if_neg (by decide)]
          by_cases hss : ss = []
          · rw [if_neg (by rw [hss]; decide), digit_ok, obs, if_neg (by rw [h93]; decide)]
            refine .inr (bad _ rfl fun l0 hl0 => ?_)
            obtain ⟨lu, e1, e2⟩ := tok l0 hl0
            rw [e2]
            exact ⟨rfl, fun _ => hss⟩
          · have hp := List.length_pos_iff.2 hss
            rw [if_pos (by rw [List.length_map]; omega), i64_nat (by omega)]
            rw [(rput_ok (by omega)).1, obs]
            refine .inl ⟨a1 + 1, ss, rfl, by omega, by omega, fun hn => ?_, fun l0 hl0 K l hcc hK => ?_⟩
            · rw [hn] at hLx
              exact Option.map_eq_none_iff.1 hLx
            · obtain ⟨lu, e1, e2⟩ := tok l0 hl0
              rw [e2] at hcc
              cases K with
              | zero => omega
              | succ K =>
                refine ⟨lu, ?_, e1⟩
                rw [ps_end (by omega) (by rw [hcc]; rfl), hcc]
                have h0 : ((ss.length : Int) == 0) = false := by simp; exact hss
                simp only [hd, List.tail_cons, if_true, h0]
        · rw [if_neg h93, digit_ok, obs]
          by_cases hdg : dig c
          · rw [if_pos (by simp only [decide_eq_true_eq]; unfold dig at hdg; omega)]
            obtain ⟨d, u, f1, f2, f3⟩ := dig_split (t.drop a1)
            have hne : d ≠ [] := by
              rintro rfl
              rw [hr] at f1
              exact f3 c r f1.symm hdg
            obtain ⟨v, v', a2, flag, e, g1, g2, g3, g4⟩ := rnum_ok (k := k) (i := i) (b8 := b8) (c := ((c.toNat : Nat) : Int)) (N := N) (F := ss.map (·.from_)) (T := ss.map (·.to_)) ht s2 f1 f2 hne f3 (by omega) (by rw [List.length_map]; omega) (by rw [List.length_map]; omega)
            rw [e]
            cases flag with
            | true =>
              obtain ⟨k', rfl⟩ := hkk
              rw [rset_bad]
              refine .inr ⟨a2, true, _, _, rfl, by omega, g2, fun l0 hl0 K l hcc hs hl hK => ?_⟩
              rw [hl0, Option.map_some] at hLx
              have hcd : cdrop l = cdrop (dsp l0) := by rw [hcc, cdrop_dsp]
              have hll := cdrop_len l
              cases K with
              | zero => omega
              | succ K =>
                obtain ⟨m, ⟨lr, h6, h7⟩ | ⟨m', lr, h6, h7⟩⟩ := g4 rfl _ hLx
                · have hcl : cdrop l = dsn m :: sgn 45 :: lr := by rw [hcd, h6, cdrop_dsn]
                  exact ⟨_, _, ps_half (by omega) hcl h7, rfl⟩
                · have hcl : cdrop l = dsn m :: sgn 45 :: dsn m' :: lr := by rw [hcd, h6, cdrop_dsn]
                  rw [ps_two (by omega) (by omega) hcl, show decide ((m : Int) > (m' : Int)) = true by simp; omega]
                  have hslr : sgs lr := fun x hx => sgs_cdrop hs x (by rw [hcl]; simp [hx])
                  rw [hcl] at hll
                  simp only [List.length_cons] at hll
                  obtain ⟨p, r, e', _, _, _, h8⟩ := set_l0 K b8 lr true (ss ++ [⟨(m : Int), (m' : Int)⟩]) (by omega) hslr (by simp; omega)
                  refine ⟨p, r, e', ?_⟩
                  cases hb : r.bad with
                  | true => rfl
                  | false => exact absurd (h8 hb).1 (by decide)
            | false =>
              obtain ⟨m, m', rfl, rfl, hmm, g5, g6⟩ := g3 rfl
              rw [i64_nat (by omega)]
              have hF : ss.map (·.from_) ++ [(m : Int)] = (ss ++ [(⟨(m : Int), (m' : Int)⟩ : T_regex_span)]).map (·.from_) := by simp
              have hT : ss.map (·.to_) ++ [(m' : Int)] = (ss ++ [(⟨(m : Int), (m' : Int)⟩ : T_regex_span)]).map (·.to_) := by simp
              rw [hF, hT]
              have tok : ∀ l0, Lx (t.drop a) = some l0 → ∃ lr, Lx (t.drop a2) = some lr ∧ ∀ (K : Nat) (l : List T_sg), cdrop l = cdrop l0 → l.length + 4 < K + 1 → rr_set.l0 (K + 1) b8 l false ss = rr_set.l0 K b8 lr false (ss ++ [⟨(m : Int), (m' : Int)⟩]) ∧ lr.length + 1 ≤ l.length ∧ (sgs l → sgs lr) := fun l0 hl0 => by
                rw [hl0, Option.map_some] at hLx
                obtain ⟨lr, h6, h7⟩ := g6 _ hLx
                refine ⟨lr, h6, fun K l hcc hK => ?_⟩
                have hcd : cdrop l = cdrop (dsp l0) := by rw [hcc, cdrop_dsp]
                have hll := cdrop_len l
                rcases h7 with ⟨h7, rfl, h8⟩ | h7
                · have hcl : cdrop l = dsn m' :: lr := by rw [hcd, h7, cdrop_dsn]
                  rw [hcl] at hll
                  simp only [List.length_cons] at hll
                  exact ⟨ps_one (by omega) (by omega) hcl h8, hll, fun hs x hx => sgs_cdrop hs x (by rw [hcl]; simp [hx])⟩
                · have hcl : cdrop l = dsn m :: sgn 45 :: dsn m' :: lr := by rw [hcd, h7, cdrop_dsn]
                  rw [hcl] at hll
                  simp only [List.length_cons] at hll
                  refine ⟨?_, by omega, fun hs x hx => sgs_cdrop hs x (by rw [hcl]; simp [hx])⟩
                  rw [ps_two (by omega) (by omega) hcl, show decide ((m : Int) > (m' : Int)) = false by simp; omega]
              rcases rset_l0 ht b8 k a2 (i + 1) N (ss ++ [⟨(m : Int), (m' : Int)⟩]) g2 (by omega) (by omega) h4 (by simp; omega) with ⟨a', ss', e2, j1, j2, j3, j4⟩ | ⟨a', b, F, T, e2, j1, j2, j3⟩
              · refine .inl ⟨a', ss', e2, by omega, j2, fun hn => j3 (g5 ?_), fun l0 hl0 K l hcc hK => ?_⟩
                · rw [hn] at hLx; exact hLx
                · obtain ⟨lr, h6, h7⟩ := tok l0 hl0
                  cases K with
                  | zero => omega
                  | succ K =>
                    obtain ⟨h8, h9, _⟩ := h7 K l hcc hK
                    rw [h8]
                    exact j4 lr h6 K lr rfl (by omega)
              · refine .inr ⟨a', b, F, T, e2, by omega, j2, fun l0 hl0 K l hcc hs hl hK => ?_⟩
                obtain ⟨lr, h6, h7⟩ := tok l0 hl0
                cases K with
                | zero => omega
                | succ K =>
                  obtain ⟨h8, h9, h10⟩ := h7 K l hcc hK
                  rw [h8]
                  exact j3 lr h6 K lr rfl (h10 hs) (by omega) (by omega)
          · rw [if_neg (by simp only [decide_eq_true_eq]; unfold dig at hdg; omega)]
            refine .inr (bad _ rfl fun l0 hl0 => ?_)
            rw [hl0, Option.map_some, hr] at hLx
            by_cases hp : punctI c.toNat = true
            · rw [Lx_punct hdg hnb hp] at hLx
              obtain ⟨lu, _, e2⟩ := Option.map_eq_some_iff.1 hLx
              have h32 : ¬ ((c.toNat : Nat) : Int) = 32 := fun h => hnb (.inl (by omega))
              rw [← cdrop_dsp l0, ← e2, cdrop, if_neg (fun h => h.elim h32 h44)]
              exact ⟨rfl, fun h => absurd h h93⟩
            · rw [Lx_none hdg hnb hp] at hLx; cases hLx
def ROut (t : List UInt8) (a : Nat) (N : List T_r11_Node) (c s : Nat) (o : Option (Int × T_r11_P)) (f : List T_sg → Option (T_pc × T_regex_reader)) : Prop :=
  ∃ (v : Int) (a' : Nat) (N' : List T_r11_Node) (b' : Bool), o = some (v, ⟨B t, ((a' : Nat) : Int), N', b'⟩) ∧ a ≤ a' ∧ (b' = false → a + s ≤ a') ∧ a' ≤ t.length ∧ Grow N N' ∧ N'.length + 3 * (t.length - a') ≤ N.length + 3 * (t.length - a) + c ∧
    (Lx (t.drop a) = none → b' = true ∨ Lx (t.drop a') = none) ∧
    (∀ l, Lx (t.drop a) = some l → ∃ p r, f l = some (p, r) ∧ r.bad = b' ∧ (b' = false → NR N' v p ∧ ∃ l', Lx (t.drop a') = some l' ∧ dsp l' = dsp r.rest))
theorem punct94 : ¬ dig 94 ∧ ¬ blank 94 ∧ punctI ((94 : UInt8).toNat : Int) = true := by decide
theorem rset_ok {t : List UInt8} (ht : t.length ≤ 200) {k K a : Nat} {N : List T_r11_Node} (ha : a ≤ t.length) (hk : 2 * t.length + 45 ≤ k) (hK : (t.length - a) + 6 ≤ K) (hN : N.length ≤ 9999) : ROut t a N 1 0 (r11_P_set.f k ⟨B t, (a : Int), N, false⟩) (fun l => rr_set.f K ⟨l, false⟩) := by
  obtain ⟨a1, es, s1, s2, s3⟩ := sign_ok (k := k) (N := N) (b := false) (show t.length ≤ 1000 by omega) ha (by omega)
  have hLx := Lx_bsp (t.drop a)
  rw [← s3] at hLx
  -- behind the ^
  have key : ∀ (a2 : Nat) (nt' : Bool) (X : Option (Int × T_r11_P)) (f : List T_sg → Option (T_pc × T_regex_reader)), a ≤ a2 → a2 ≤ t.length → (Lx (t.drop a) = none → Lx (t.drop a2) = none) →
      (∀ l, Lx (t.drop a) = some l → ∃ l2, Lx (t.drop a2) = some l2 ∧ f l = ((rr_set.l0 K nt' l2 false []).bind fun o => match o with | .inl r => some r | .inr _ => none)) →
      X = ((r11_P_set.l0 k nt' 0 (B t) ((a2 : Nat) : Int) N false [] []).bind fun o => match o with | .inl r => some r | .inr (s35, n36, l37, b40, l41, l44) => (some (0, (T_r11_P.mk s35 n36 l37 true)))) → ROut t a N 1 0 X f := by
    intro a2 nt' X f h1 h2 h3 h4 hX
    rcases rset_l0 ht nt' k a2 0 N [] h2 (Nat.zero_le _) (by omega) (by omega) (by simp; omega) with ⟨a', ss', e, g1, g2, g3, g4⟩ | ⟨a', b, F, T, e, g1, g2, g3⟩
    · rw [show ((0 : Nat) : Int) = 0 from rfl] at e
      simp only [List.map_nil] at e
      rw [e, obs] at hX
      refine ⟨_, a', _, false, hX, by omega, fun _ => by omega, g2, Grow.app _ _, by simp; omega, fun hn => .inr (g3 (h3 hn)), fun l hl => ?_⟩
      obtain ⟨l2, e2, e3⟩ := h4 l hl
      have hl2 := (Lx_sg e2).2
      rw [List.length_drop] at hl2
      obtain ⟨r, e4, e5⟩ := g4 l2 e2 K l2 rfl (by omega)
      rw [e3, e4]
      refine ⟨_, _, rfl, rfl, fun _ => ⟨?_, r, e5, rfl⟩⟩
      exact .set (rput_ok (k := 1) (S := B t) (A := 0) (b := false) (by omega)).2 rfl rfl rfl rfl (.inr rfl)
    · rw [show ((0 : Nat) : Int) = 0 from rfl] at e
      simp only [List.map_nil] at e
      rw [e, obs] at hX
      refine ⟨_, a', _, true, hX, by omega, fun h => by (cases h), g2, Grow.refl _, by omega, fun _ => .inl rfl, fun l hl => ?_⟩
      obtain ⟨l2, e2, e3⟩ := h4 l hl
      obtain ⟨hs, hl2⟩ := Lx_sg e2
      rw [List.length_drop] at hl2
      obtain ⟨p, r, e4, e5⟩ := g3 l2 e2 K l2 rfl hs (by omega) (by omega)
      rw [e3, e4]
      exact ⟨p, r, rfl, e5, fun h => by cases h⟩
  rw [r11_P_set.f, es, obs]
  simp only
  by_cases h94 : hdb (t.drop a1) = 94
  · rw [if_pos h94, obs]
    cases hr : t.drop a1 with
    | nil => rw [hr] at h94; exact absurd h94 (by decide)
    | cons c r =>
      rw [hr] at h94
      obtain ⟨d1, d2⟩ := drop_succ hr
      have hc := byte_eq (n := 94) (by decide) h94
      have hLr : Lx (t.drop a1) = (Lx (t.drop (a1 + 1))).map (sgn 94 :: ·) := by rw [hr, hc, d1]; exact Lx_punct punct94.1 punct94.2.1 punct94.2.2
      rw [hLr] at hLx
      rw [i64_nat (by omega)]
      refine key (a1 + 1) true _ _ (by omega) (by omega) (fun hn => ?_) (fun l hl => ?_) rfl
      · rw [hn] at hLx
        exact Option.map_eq_none_iff.1 hLx
      · rw [hl, Option.map_some] at hLx
        obtain ⟨lu, e1, e2⟩ := Option.map_eq_some_iff.1 hLx
        refine ⟨lu, e1, ?_⟩
        have hll := (Lx_sg hl).2
        rw [List.length_drop] at hll
        have dl := dsp_len l
        rw [rr_set.f, peek_eq (by omega), obs, ← e2]
        simp only
        rw [if_pos (by rfl), next_eq (by rw [e2]; omega), obs, obs]
        rfl
  · rw [if_neg h94, obs]
    refine key a1 false _ _ (by omega) s2 (fun hn => ?_) (fun l hl => ?_) rfl
    · rw [hn] at hLx; exact hLx
    · rw [hl, Option.map_some] at hLx
      refine ⟨dsp l, hLx, ?_⟩
      have hll := (Lx_sg hl).2
      rw [List.length_drop] at hll
      rw [rr_set.f, peek_eq (by omega), obs]
      simp only
      have h94' : ¬ (hd (dsp l)).c = 94 := by
        intro h
        cases hr : t.drop a1 with
        | nil =>
          rw [hr, Lx_nil, Option.some.injEq] at hLx
          rw [← hLx] at h
          exact absurd h (by decide)
        | cons c r =>
          rw [hr] at hLx h94
          have hnb : ¬ blank c := bsp_head (show bsp (t.drop a1) = t.drop a1 by rw [s3, bsp_bsp]) hr
          by_cases hdg : dig c
          · obtain ⟨d, u, f1, f2, f3⟩ := dig_split (c :: r)
            have hne : d ≠ [] := by
              rintro rfl
              exact f3 c r f1.symm hdg
            rw [f1, Lx_num f2 hne f3] at hLx
            obtain ⟨m, _, hLx⟩ := obx hLx
            obtain ⟨lu, _, e2⟩ := Option.map_eq_some_iff.1 hLx
            rw [← e2] at h
            exact absurd h (by show ¬ (0 : Int) = 94; decide)
          · by_cases hp : punctI c.toNat = true
            · rw [Lx_punct hdg hnb hp] at hLx
              obtain ⟨lu, _, e2⟩ := Option.map_eq_some_iff.1 hLx
              rw [← e2] at h
              exact h94 h
            · rw [Lx_none hdg hnb hp] at hLx; cases hLx
      rw [if_neg h94', obs]
      rfl
end Go.Proofs.YtafnenafbognkaaGreatDoor
namespace Go.Proofs.YtafnenafbognkaaGreatDoor
open Sp
set_option maxRecDepth 100000
set_option maxHeartbeats 4000000
theorem tok_dsp {r : List UInt8} (hb : bsp r = r) {l : List T_sg} (h : Lx r = some l) : dsp l = l := by
  have := Lx_bsp r
  rw [hb, h, Option.map_some, Option.some.injEq] at this
  exact this.symm
theorem tok_cases {r : List UInt8} (hb : bsp r = r) {l : List T_sg} (h : Lx r = some l) : (r = [] ∧ l = []) ∨ (∃ c u, r = c :: u ∧ ((dig c ∧ ∃ m lu, l = dsn m :: lu) ∨ (¬ dig c ∧ ¬ blank c ∧ ∃ lu, l = sgn c.toNat :: lu ∧ Lx u = some lu))) := by
  cases r with
  | nil => rw [Lx_nil] at h; exact .inl ⟨rfl, (Option.some.inj h).symm⟩
  | cons c u =>
    refine .inr ⟨c, u, rfl, ?_⟩
    have hnb := bsp_head hb rfl
    by_cases hdg : dig c
    · refine .inl ⟨hdg, ?_⟩
      obtain ⟨d, w, f1, f2, f3⟩ := dig_split (c :: u)
      have hne : d ≠ [] := by
        rintro rfl
        exact f3 c u f1.symm hdg
      rw [f1, Lx_num f2 hne f3] at h
      obtain ⟨m, _, h⟩ := obx h
      obtain ⟨lu, _, e2⟩ := Option.map_eq_some_iff.1 h
      exact ⟨m, lu, e2.symm⟩
    · refine .inr ⟨hdg, hnb, ?_⟩
      by_cases hp : punctI c.toNat = true
      · rw [Lx_punct hdg hnb hp] at h
        obtain ⟨lu, e1, e2⟩ := Option.map_eq_some_iff.1 h
        exact ⟨lu, e2.symm, e1⟩
      · rw [Lx_none hdg hnb hp] at h; cases h
theorem tok_hd {r : List UInt8} (hb : bsp r = r) {l : List T_sg} (h : Lx r = some l) (x : Int) (h0 : ¬ x = 0) (hx : ¬ (48 ≤ x ∧ x ≤ 57)) : hdb r = x ↔ (hd l).c = x := by
  rcases tok_cases hb h with ⟨rfl, rfl⟩ | ⟨c, u, rfl, ⟨hdg, m, lu, rfl⟩ | ⟨_, _, lu, rfl, _⟩⟩
  · exact Iff.rfl
  · unfold dig at hdg
    show ((c.toNat : Nat) : Int) = x ↔ (0 : Int) = x
    constructor <;> intro h <;> omega
  · exact Iff.rfl
theorem tok_step {t : List UInt8} {a : Nat} (x : Nat) (hx : x < 256) (hp : ¬ dig (UInt8.ofNat x) ∧ ¬ blank (UInt8.ofNat x) ∧ punctI ((UInt8.ofNat x).toNat : Int) = true) (h0 : 0 < x) (h : hdb (t.drop a) = (x : Int)) : a < t.length ∧ Lx (t.drop a) = (Lx (t.drop (a + 1))).map (sgn (x : Int) :: ·) := by
  cases hr : t.drop a with
  | nil => rw [hr] at h; exact absurd h (by show ¬ (0 : Int) = (x : Int); omega)
  | cons c r =>
    rw [hr] at h
    obtain ⟨d1, d2⟩ := drop_succ hr
    have hc := byte_eq hx h
    refine ⟨d2, ?_⟩
    rw [d1, hc, Lx_punct hp.1 hp.2.1 hp.2.2]
    have : ((UInt8.ofNat x).toNat : Int) = (x : Int) := by rw [UInt8.toNat_ofNat']; omega
    rw [this]
theorem rrep_l0 {t : List UInt8} (ht : t.length ≤ 200) : ∀ (k a : Nat) (N : List T_r11_Node) (v : Int), a ≤ t.length → bsp (t.drop a) = t.drop a → t.length + 2 + (t.length - a) ≤ k → N.length + (t.length - a) ≤ 10000 →
    ∃ (v' : Int) (a' : Nat) (N' : List T_r11_Node), r11_P_part.l0 k (hdb (t.drop a)) v (B t) (a : Int) N false = some (v', B t, ((a' : Nat) : Int), N', false) ∧ a ≤ a' ∧ a' ≤ t.length ∧ Grow N N' ∧ N'.length + 3 * (t.length - a') ≤ N.length + 3 * (t.length - a) ∧
      (Lx (t.drop a) = none → Lx (t.drop a') = none) ∧
      ∀ l0, Lx (t.drop a) = some l0 → ∀ (K : Nat) (p : T_pc) (l : List T_sg), dsp l = l0 → NR N v p → l.length + 1 < K → ∃ q r, rr_repeats.l0 K p.kind p.parts p.spans p.not l false = some (.inl (q, ⟨r, false⟩)) ∧ NR N' v' q ∧ Lx (t.drop a') = some r
  | 0, a, N, v, _, _, h, _ => by omega
  | k + 1, a, N, v, h1, hb, h3, h4 => by
    rw [r11_P_part.l0, if_neg (by decide)]
    have step : ∀ (x : Nat) (kd : Int), (x = 42 ∧ kd = 7 ∨ x = 43 ∧ kd = 8 ∨ x = 63 ∧ kd = 9) → hdb (t.drop a) = (x : Int) →
        ∃ (v' : Int) (a' : Nat) (N' : List T_r11_Node), ((r11_P_put.f k ⟨B t, (i64 ((a : Int) + 1)), N, false⟩ ⟨hdb (t.drop a), [v], [], [], false, false⟩).bind fun y98 => ((r11_P_sign.f k y98.2).bind fun y102 => (r11_P_part.l0 k y102.1 y98.1 y102.2.S y102.2.At y102.2.N y102.2.Bad))) = some (v', B t, ((a' : Nat) : Int), N', false) ∧ a ≤ a' ∧ a' ≤ t.length ∧ Grow N N' ∧ N'.length + 3 * (t.length - a') ≤ N.length + 3 * (t.length - a) ∧
        (Lx (t.drop a) = none → Lx (t.drop a') = none) ∧
        ∀ l0, Lx (t.drop a) = some l0 → ∀ (K : Nat) (p : T_pc) (l : List T_sg), dsp l = l0 → NR N v p → l.length + 1 < K → ∃ q r, rr_repeats.l0 K p.kind p.parts p.spans p.not l false = some (.inl (q, ⟨r, false⟩)) ∧ NR N' v' q ∧ Lx (t.drop a') = some r := by
      intro x kd hx hh
      have hp : x < 256 ∧ 0 < x ∧ (¬ dig (UInt8.ofNat x) ∧ ¬ blank (UInt8.ofNat x) ∧ punctI ((UInt8.ofNat x).toNat : Int) = true) := by
        rcases hx with ⟨rfl, _⟩ | ⟨rfl, _⟩ | ⟨rfl, _⟩ <;> decide
      obtain ⟨d2, hL⟩ := tok_step x hp.1 hp.2.2 hp.2.1 hh
      rw [hh, i64_nat (by omega), (rput_ok (by omega)).1, obs]
      simp only
      obtain ⟨a2, es, s1, s2, s3⟩ := sign_ok (k := k) (N := N ++ [(⟨(x : Int), [v], [], [], false, false⟩ : T_r11_Node)]) (b := false) (show t.length ≤ 1000 by omega) (show a + 1 ≤ t.length by omega) (by omega)
      have hLx := Lx_bsp (t.drop (a + 1))
      rw [← s3] at hLx
      rw [es, obs]
      simp only
      obtain ⟨v', a', N', e, g1, g2, g3, g4, g5, g6⟩ := rrep_l0 ht k a2 (N ++ [(⟨(x : Int), [v], [], [], false, false⟩ : T_r11_Node)]) ((N.length : Nat) : Int) s2 (by rw [s3, bsp_bsp]) (by omega) (by simp; omega)
      refine ⟨v', a', N', e, by omega, g2, (Grow.app _ _).trans g3, by simp at g4; omega, fun hn => g5 ?_, fun l0 hl0 K p l hl hN hK => ?_⟩
      · rw [hL] at hn
        rw [hLx, Option.map_eq_none_iff.1 hn]; rfl
      · rw [hL] at hl0
        obtain ⟨lu, e1, e2⟩ := Option.map_eq_some_iff.1 hl0
        rw [e1, Option.map_some] at hLx
        cases K with
        | zero => omega
        | succ K =>
          have dl := dsp_len l
          rw [hl, ← e2] at dl
          simp only [List.length_cons] at dl
          have hN2 : NR (N ++ [(⟨(x : Int), [v], [], [], false, false⟩ : T_r11_Node)]) ((N.length : Nat) : Int) ⟨kd, [p], [], false⟩ := by
            refine .rep (rput_ok (k := 1) (S := B t) (A := 0) (b := false) (by omega)).2 ?_ rfl (hN.mono (Grow.app _ _))
            rcases hx with ⟨rfl, rfl⟩ | ⟨rfl, rfl⟩ | ⟨rfl, rfl⟩
            · exact .inl ⟨rfl, rfl⟩
            · exact .inr (.inl ⟨rfl, rfl⟩)
            · exact .inr (.inr ⟨rfl, rfl⟩)
          have hdu := dsp_len lu
          obtain ⟨q, r, e3, e4, e5⟩ := g6 _ hLx K ⟨kd, [p], [], false⟩ lu rfl hN2 (by omega)
          refine ⟨q, r, ?_, e4, e5⟩
          rw [rr_repeats.l0, peek_eq (by omega), obs, hl, ← e2]
          simp only
          rw [next_eq (by simp only [List.length_cons]; omega)]
          have hds : dsp (sgn (x : Int) :: lu) = sgn (x : Int) :: lu := by rw [dsp, if_neg (by show ¬ (x : Int) = 32; rcases hx with ⟨rfl, _⟩ | ⟨rfl, _⟩ | ⟨rfl, _⟩ <;> decide)]
          rw [hds]
          simp only [obs, hd, List.tail_cons]
          have hpp : (⟨p.kind, p.parts, p.spans, p.not⟩ : T_pc) = p := by cases p; rfl
          rw [hpp]
          rcases hx with ⟨rfl, rfl⟩ | ⟨rfl, rfl⟩ | ⟨rfl, rfl⟩
          · exact (if_pos rfl).trans e3
          · exact (if_neg (by decide)).trans ((if_pos rfl).trans e3)
          · exact (if_neg (by decide)).trans ((if_neg (by decide)).trans ((if_pos rfl).trans e3))
    by_cases c1 : hdb (t.drop a) = 42
    · rw [if_pos c1]; exact step 42 7 (.inl ⟨rfl, rfl⟩) c1
    · rw [if_neg c1]
      by_cases c2 : hdb (t.drop a) = 43
      · rw [if_pos c2]; exact step 43 8 (.inr (.inl ⟨rfl, rfl⟩)) c2
      · rw [if_neg c2]
        by_cases c3 : hdb (t.drop a) = 63
        · rw [if_pos c3]; exact step 63 9 (.inr (.inr ⟨rfl, rfl⟩)) c3
        · rw [if_neg c3]
          refine ⟨v, a, N, rfl, Nat.le_refl _, h1, Grow.refl _, Nat.le_refl _, id, fun l0 hl0 K p l hl hN hK => ?_⟩
          cases K with
          | zero => omega
          | succ K =>
            have e1 := tok_hd hb hl0 42 (by decide) (by decide)
            have e2 := tok_hd hb hl0 43 (by decide) (by decide)
            have e3 := tok_hd hb hl0 63 (by decide) (by decide)
            refine ⟨p, l0, ?_, hN, hl0⟩
            rw [rr_repeats.l0, peek_eq (by omega), obs, hl]
            simp only
            rw [if_neg (fun h => c1 (e1.2 h)), if_neg (fun h => c2 (e2.2 h)), if_neg (fun h => c3 (e3.2 h))]
            cases p; rfl
def rtail (k : Nat) (v : Int) (P : T_r11_P) : Option (Int × T_r11_P) :=
  (r11_P_sign.f k (T_r11_P.mk P.S P.At P.N P.Bad)).bind fun y65 => ((r11_P_part.l0 k y65.1 v y65.2.S y65.2.At y65.2.N y65.2.Bad).bind fun (n84, s85, n86, l87, b90) => (some (n84, (T_r11_P.mk s85 n86 l87 b90))))
theorem rcont {t : List UInt8} (ht : t.length ≤ 200) {a c s k K : Nat} {N : List T_r11_Node} {v : Int} {P : T_r11_P} {fa : List T_sg → Option (T_pc × T_regex_reader)} (h : ROut t a N c s (some (v, P)) fa) (hk : 2 * t.length + 3 ≤ k) (hK : t.length + 2 ≤ K) (hN : N.length + 3 * (t.length - a) + c ≤ 9000)
    (hb : ∀ l p r, Lx (t.drop a) = some l → fa l = some (p, r) → r.rest.length ≤ t.length ∧ sgs r.rest) : ROut t a N c s (rtail k v P) (fun l => (fa l).bind fun z => rr_repeats.f K z.2 z.1) := by
  obtain ⟨v1, a1, N1, b1, e, h1, hs, h2, h3, h4, h5, h6⟩ := h
  simp only [Option.some.injEq, Prod.mk.injEq] at e
  obtain ⟨rfl, rfl⟩ := e
  obtain ⟨a2, es, s1, s2, s3⟩ := sign_ok (k := k) (N := N1) (b := b1) (show t.length ≤ 1000 by omega) h2 (by omega)
  have hLx := Lx_bsp (t.drop a1)
  rw [← s3] at hLx
  rw [rtail, es, obs]
  simp only
  cases b1 with
  | true =>
    cases k with
    | zero => omega
    | succ k =>
      rw [r11_P_part.l0, if_pos rfl, obs]
      refine ⟨v, a2, N1, true, rfl, by omega, fun h => by (cases h), s2, h3, by omega, fun _ => .inl rfl, fun l hl => ?_⟩
      obtain ⟨p, r, e1, e2, _⟩ := h6 l hl
      obtain ⟨g1, g2⟩ := hb l p r hl e1
      obtain ⟨q, r', e3, _, e4, _⟩ := repeats_ok (k := K) (p := p) (l := r.rest) (b := r.bad) (by omega) g2
      rw [show (⟨r.rest, r.bad⟩ : T_regex_reader) = r from rfl] at e3
      exact ⟨q, r', by show ((fa l).bind fun z => rr_repeats.f K z.2 z.1) = _; rw [e1, obs]; exact e3, by rw [e4, e2], fun h => by cases h⟩
  | false =>
    obtain ⟨v', a', N', e, g1, g2, g3, g4, g5, g6⟩ := rrep_l0 ht k a2 N1 v s2 (by rw [s3, bsp_bsp]) (by omega) (by omega)
    rw [e, obs]
    have hs' := hs rfl
    refine ⟨v', a', N', false, rfl, by omega, fun _ => by omega, g2, h3.trans g3, by omega, fun hn => ?_, fun l hl => ?_⟩
    · rcases h5 hn with h | h
      · cases h
      · exact .inr (g5 (by rw [hLx, h]; rfl))
    · obtain ⟨p, r, e1, e2, e3⟩ := h6 l hl
      obtain ⟨e4, l', e5, e6⟩ := e3 rfl
      obtain ⟨f1, f2⟩ := hb l p r hl e1
      rw [e5, Option.map_some] at hLx
      obtain ⟨q, r2, e7, e8, e9⟩ := g6 _ hLx K p r.rest e6.symm e4 (by omega)
      refine ⟨q, ⟨r2, false⟩, ?_, rfl, fun _ => ⟨e8, r2, e9, rfl⟩⟩
      show ((fa l).bind fun z => rr_repeats.f K z.2 z.1) = _
      rw [e1, obs, rr_repeats.f, e2, e7]
      rfl
theorem rstop {t : List UInt8} {a a' c s K : Nat} {N N' : List T_r11_Node} {v : Int} {fa : List T_sg → Option (T_pc × T_regex_reader)} (h1 : a ≤ a') (h2 : a' ≤ t.length) (h3 : Grow N N') (h4 : N'.length + 3 * (t.length - a') ≤ N.length + 3 * (t.length - a) + c) (hK : t.length + 2 ≤ K)
    (hb : ∀ l, Lx (t.drop a) = some l → ∃ p r, fa l = some (p, r) ∧ r.rest.length ≤ t.length ∧ sgs r.rest ∧ r.bad = true) : ROut t a N c s (some (v, ⟨B t, ((a' : Nat) : Int), N', true⟩)) (fun l => (fa l).bind fun z => rr_repeats.f K z.2 z.1) := by
  refine ⟨v, a', N', true, rfl, h1, fun h => by (cases h), h2, h3, h4, fun _ => .inl rfl, fun l hl => ?_⟩
  obtain ⟨p, r, e1, g1, g2, e2⟩ := hb l hl
  obtain ⟨q, r', e3, _, e4, _⟩ := repeats_ok (k := K) (p := p) (l := r.rest) (b := r.bad) (by omega) g2
  rw [show (⟨r.rest, r.bad⟩ : T_regex_reader) = r from rfl] at e3
  exact ⟨q, r', by show ((fa l).bind fun z => rr_repeats.f K z.2 z.1) = _; rw [e1, obs]; exact e3, by rw [e4, e2], fun h => by cases h⟩
end Go.Proofs.YtafnenafbognkaaGreatDoor
namespace Go.Proofs.YtafnenafbognkaaGreatDoor
open Sp
set_option maxRecDepth 100000
set_option maxHeartbeats 4000000
def fpart (K : Nat) (l : List T_sg) : Option (T_pc × T_regex_reader) := rr_atom.f K ⟨l.tail, false⟩ (hd l)
def ChOk (t : List UInt8) (n : Nat) : Prop := ∀ (a k K : Nat) (N : List T_r11_Node), a ≤ t.length → t.length - a < n → 2 * t.length + 60 + 6 * (t.length - a) + 6 ≤ k → 5 * t.length + 20 + 4 * (t.length - a) + 4 ≤ K → N.length + 3 * (t.length - a) ≤ 5000 → ROut t a N 2 0 (r11_P_choices.f k ⟨B t, (a : Int), N, false⟩) (fun l => rr_choices.f K ⟨l, false⟩)
theorem rpart {t : List UInt8} (ht : t.length ≤ 200) (n : Nat) (ihc : ChOk t n) (a k K : Nat) (N : List T_r11_Node) (ha : a ≤ t.length) (hn : t.length - a = n) (hb : bsp (t.drop a) = t.drop a) (h0 : hdb (t.drop a) ≠ 0) (hk : 2 * t.length + 60 + 6 * n + 3 ≤ k) (hK : 5 * t.length + 20 + 4 * n + 1 ≤ K) (hN : N.length + 3 * n ≤ 5000) :
    ROut t a N 0 1 (r11_P_part.f k ⟨B t, (a : Int), N, false⟩) (fun l => (fpart K l).bind fun z => rr_repeats.f K z.2 z.1) := by
  cases k with
  | zero => omega
  | succ k =>
    cases K with
    | zero => omega
    | succ K =>
      rw [r11_P_part.f, sign_stay (by omega) ha (by omega) hb, obs]
      simp only
      -- bounds
      have bnd : ∀ l p r, Lx (t.drop a) = some l → fpart (K + 1) l = some (p, r) → r.rest.length ≤ t.length ∧ sgs r.rest := by
        intro l p r hl hp
        obtain ⟨hs, hll⟩ := Lx_sg hl
        rw [List.length_drop] at hll
        have hne : l ≠ [] := by
          rintro rfl
          rcases tok_cases hb hl with ⟨h1, _⟩ | ⟨c, u, _, ⟨_, m, lu, h2⟩ | ⟨_, _, lu, h2, _⟩⟩
          · rw [h1] at h0; exact h0 rfl
          · cases h2
          · cases h2
        have hst : sgs l.tail := fun x hx => hs x (List.mem_of_mem_tail hx)
        have htl : l.tail.length + 1 ≤ l.length := by
          cases l with
          | nil => exact absurd rfl hne
          | cons x l => simp
        obtain ⟨_, _, _, _, hat⟩ := all_ok l.tail.length l.tail false rfl hst (by omega)
        obtain ⟨g1, g2, _⟩ := res_inv (hat (K + 1) (hd l) (by omega) (hd_ok hs hne)) hp
        exact ⟨by omega, g2⟩
      have hL0 : ∀ (x : Nat), x < 256 → (¬ dig (UInt8.ofNat x) ∧ ¬ blank (UInt8.ofNat x) ∧ punctI ((UInt8.ofNat x).toNat : Int) = true) → 0 < x → hdb (t.drop a) = (x : Int) → a < t.length ∧ (Lx (t.drop a) = none → Lx (t.drop (a + 1)) = none) ∧ ∀ l, Lx (t.drop a) = some l → ∃ lu, l = sgn (x : Int) :: lu ∧ Lx (t.drop (a + 1)) = some lu := by
        intro x h1 h2 h3 h4
        obtain ⟨g1, g2⟩ := tok_step x h1 h2 h3 h4
        refine ⟨g1, fun hh => ?_, fun l hl => ?_⟩
        · rw [g2] at hh; exact Option.map_eq_none_iff.1 hh
        · rw [g2] at hl
          obtain ⟨lu, e1, e2⟩ := Option.map_eq_some_iff.1 hl
          exact ⟨lu, e2.symm, e1⟩
      rw [digit_ok, obs]
      by_cases hdg : 48 ≤ hdb (t.drop a) ∧ hdb (t.drop a) ≤ 57
      · rw [if_pos (by simpa using hdg)]
        obtain ⟨d, u, f1, f2, f3⟩ := dig_split (t.drop a)
        have hne : d ≠ [] := by
          rintro rfl
          rw [List.nil_append] at f1
          cases hr : t.drop a with
          | nil => rw [hr] at h0; exact h0 rfl
          | cons c r =>
            rw [hr] at hdg
            have hdg' : 48 ≤ ((c.toNat : Nat) : Int) ∧ ((c.toNat : Nat) : Int) ≤ 57 := hdg
            exact f3 c r (by rw [← f1, hr]) ⟨by omega, by omega⟩
        have hdl := List.length_pos_iff.2 hne
        obtain ⟨v, ok, e1, e2, e3, e4, e5⟩ := num_ok (k := k) (N := N) (b := false) (by omega) ha f1 f2 f3 (by omega)
        simp only [Bool.false_or] at e1
        rw [e1, obs]
        simp only
        rw [(rput_ok (by omega)).1, obs, obs]
        have hLn : Lx (t.drop a) = (numOf d).bind fun m => (Lx u).map (dsn m :: ·) := by rw [f1]; exact Lx_num f2 hne f3
        refine rcont ht (k := k) (K := K + 1) (N := N) (a := a) (c := 0) (s := 1) (v := ((N.length : Nat) : Int)) (P := ⟨B t, ((a + d.length : Nat) : Int), N ++ [⟨115, [], [v], [v], false, true⟩], !ok⟩) (fa := fpart (K + 1)) ?_ (by omega) (by omega) (by omega) bnd
        refine ⟨_, a + d.length, _, !ok, rfl, by omega, fun _ => by omega, e3, Grow.app _ _, by simp; omega, fun hh => ?_, fun l hl => ?_⟩
        · rw [e2]
          cases hn' : numOf d with
          | none => rw [e5 hn']; exact .inl rfl
          | some m =>
            rw [hLn, hn', obs] at hh
            exact .inr (Option.map_eq_none_iff.1 hh)
        · rw [e2]
          rw [hLn] at hl
          obtain ⟨m, hm, hl⟩ := obx hl
          obtain ⟨lu, g1, rfl⟩ := Option.map_eq_some_iff.1 hl
          obtain ⟨rfl, rfl⟩ := e4 m hm
          refine ⟨⟨2, [], [⟨(m : Int), (m : Int)⟩], false⟩, ⟨lu, false⟩, ?_, rfl, fun _ => ⟨?_, lu, g1, rfl⟩⟩
          · rw [fpart, rr_atom.f, if_pos (by rfl)]
            rfl
          · exact .set (rput_ok (k := 1) (S := B t) (A := 0) (b := false) (by omega)).2 rfl rfl rfl rfl (.inl rfl)
      · rw [if_neg (by simpa using hdg)]
        -- one sign
        have one : ∀ (x : Nat) (kd : Int), (x = 46 ∧ kd = 3 ∨ x = 94 ∧ kd = 5 ∨ x = 36 ∧ kd = 6) → hdb (t.drop a) = (x : Int) → ROut t a N 0 1 (rtail k ((N.length : Nat) : Int) ⟨B t, ((a + 1 : Nat) : Int), N ++ [⟨(x : Int), [], [], [], false, false⟩], false⟩) (fun l => (fpart (K + 1) l).bind fun z => rr_repeats.f (K + 1) z.2 z.1) := by
          intro x kd hx hh
          have hp : x < 256 ∧ 0 < x ∧ (¬ dig (UInt8.ofNat x) ∧ ¬ blank (UInt8.ofNat x) ∧ punctI ((UInt8.ofNat x).toNat : Int) = true) := by
            rcases hx with ⟨rfl, _⟩ | ⟨rfl, _⟩ | ⟨rfl, _⟩ <;> decide
          obtain ⟨d1, d2, d3⟩ := hL0 x hp.1 hp.2.2 hp.2.1 hh
          refine rcont ht ?_ (by omega) (by omega) (by omega) bnd
          refine ⟨_, a + 1, _, false, rfl, by omega, fun _ => by omega, by omega, Grow.app _ _, by simp; omega, fun h => .inr (d2 h), fun l hl => ?_⟩
          obtain ⟨lu, rfl, g1⟩ := d3 l hl
          have hlat := (rput_ok (k := 1) (S := B t) (A := 0) (b := false) (N := N) (nd := ⟨(x : Int), [], [], [], false, false⟩) (by omega)).2
          refine ⟨⟨kd, [], [], false⟩, ⟨lu, false⟩, ?_, rfl, fun _ => ⟨?_, lu, g1, rfl⟩⟩
          · rw [fpart, rr_atom.f]
            rcases hx with ⟨rfl, rfl⟩ | ⟨rfl, rfl⟩ | ⟨rfl, rfl⟩ <;> rfl
          · rcases hx with ⟨rfl, rfl⟩ | ⟨rfl, rfl⟩ | ⟨rfl, rfl⟩
            · exact .any hlat rfl
            · exact .start hlat rfl
            · exact .stop hlat rfl
        by_cases c1 : hdb (t.drop a) = 46
        · have hlt := (hL0 46 (by decide) (by decide) (by decide) c1).1
          rw [if_pos c1, i64_nat (by omega), (rput_ok (by omega)).1, obs, obs, c1]
          exact one 46 3 (.inl ⟨rfl, rfl⟩) c1
        · rw [if_neg c1]
          by_cases c2 : hdb (t.drop a) = 94
          · have hlt := (hL0 94 (by decide) (by decide) (by decide) c2).1
            rw [if_pos c2, i64_nat (by omega), (rput_ok (by omega)).1, obs, obs, c2]
            exact one 94 5 (.inr (.inl ⟨rfl, rfl⟩)) c2
          · rw [if_neg c2]
            by_cases c3 : hdb (t.drop a) = 36
            · have hlt := (hL0 36 (by decide) (by decide) (by decide) c3).1
              rw [if_pos c3, i64_nat (by omega), (rput_ok (by omega)).1, obs, obs, c3]
              exact one 36 6 (.inr (.inr ⟨rfl, rfl⟩)) c3
            · rw [if_neg c3]
              by_cases c4 : hdb (t.drop a) = 91
              · obtain ⟨d1, d2, d3⟩ := hL0 91 (by decide) (by decide) (by decide) c4
                rw [if_pos c4, i64_nat (by omega)]
                obtain ⟨v, a', N', b', e, g1, _, g2, g3, g4, g5, g6⟩ := rset_ok ht (k := k) (K := K) (a := a + 1) (N := N) (by omega) (by omega) (by omega) (by omega)
                rw [e, obs, obs]
                refine rcont ht (k := k) (K := K + 1) (N := N) (a := a) (c := 0) (s := 1) (v := v) (P := ⟨B t, ((a' : Nat) : Int), N', b'⟩) (fa := fpart (K + 1)) ?_ (by omega) (by omega) (by omega) bnd
                refine ⟨v, a', N', b', rfl, by omega, fun _ => by omega, g2, g3, by omega, fun h => g5 (d2 h), fun l hl => ?_⟩
                obtain ⟨lu, rfl, h1⟩ := d3 l hl
                obtain ⟨p, r, e2, e3, e4⟩ := g6 lu h1
                refine ⟨p, r, ?_, e3, e4⟩
                have e2' : rr_set.f K ⟨lu, false⟩ = some (p, r) := e2
                rw [fpart, rr_atom.f]
                simp only [hd, List.tail_cons]
                rw [e2']
                rfl
              · rw [if_neg c4]
                by_cases c5 : hdb (t.drop a) = 40
                · obtain ⟨d1, d2, d3⟩ := hL0 40 (by decide) (by decide) (by decide) c5
                  rw [if_pos c5, i64_nat (by omega)]
                  obtain ⟨v, a1, N1, b1, e, g1, _, g2, g3, g4, g5, g6⟩ := ihc (a + 1) k K N (by omega) (by omega) (by omega) (by omega) (by omega)
                  rw [e, obs]
                  simp only
                  obtain ⟨a2, es, s1, s2, s3⟩ := sign_ok (k := k) (N := N1) (b := b1) (show t.length ≤ 1000 by omega) g2 (by omega)
                  have hLx := Lx_bsp (t.drop a1)
                  rw [← s3] at hLx
                  have hb2 : bsp (t.drop a2) = t.drop a2 := by rw [s3, bsp_bsp]
                  rw [es, obs]
                  simp only
                  -- the atom by the signs
                  have atm : ∀ lu p r, rr_choices.f K ⟨lu, false⟩ = some (p, r) → r.rest.length < K → fpart (K + 1) (sgn 40 :: lu) = some (p, if r.bad = true then ⟨r.rest, true⟩ else ⟨(dsp r.rest).tail, (hd (dsp r.rest)).c != 41⟩) := by
                    intro lu p r h1 h2
                    have hnx := next_eq (k := K) (l := r.rest) (b := r.bad) h2
                    rw [show (⟨r.rest, r.bad⟩ : T_regex_reader) = r from rfl] at hnx
                    rw [fpart, rr_atom.f]
                    simp only [hd, List.tail_cons]
                    refine (if_neg (by decide)).trans ((if_neg (by decide)).trans ((if_neg (by decide)).trans ((if_neg (by decide)).trans ((if_neg (by decide)).trans ((if_pos (by decide)).trans ?_)))))
                    rw [h1, obs]
                    simp only
                    by_cases hbb : r.bad = true
                    · rw [if_pos hbb, if_pos hbb]
                    · rw [if_neg hbb, if_neg hbb, hnx, obs]
                      rfl
                  have cb : ∀ lu p r, Lx (t.drop (a + 1)) = some lu → rr_choices.f K ⟨lu, false⟩ = some (p, r) → r.rest.length ≤ t.length ∧ sgs r.rest := by
                    intro lu p r h1 h2
                    obtain ⟨hs, hll⟩ := Lx_sg h1
                    rw [List.length_drop] at hll
                    obtain ⟨i1, i2, _⟩ := res_inv (choices_ok (k := K) (b := false) (by omega) hs (by omega)) h2
                    exact ⟨by omega, i2⟩
                  by_cases c6 : hdb (t.drop a2) = 41
                  · obtain ⟨q1, q2⟩ := tok_step 41 (by decide) (by decide) (by decide) c6
                    rw [if_pos c6, obs, i64_nat (by omega)]
                    refine rcont ht (k := k) (K := K + 1) (N := N) (a := a) (c := 0) (s := 1) (v := v) (P := ⟨B t, ((a2 + 1 : Nat) : Int), N1, b1⟩) (fa := fpart (K + 1)) ?_ (by omega) (by omega) (by omega) bnd
                    refine ⟨v, a2 + 1, N1, b1, rfl, by omega, fun _ => by omega, by omega, g3, by omega, fun h => ?_, fun l hl => ?_⟩
                    · rcases g5 (d2 h) with h | h
                      · exact .inl h
                      · rw [h, Option.map_none, q2] at hLx
                        exact .inr (Option.map_eq_none_iff.1 hLx)
                    · obtain ⟨lu, rfl, h1⟩ := d3 l hl
                      obtain ⟨p, r, e2, e3, e4⟩ := g6 lu h1
                      have e2' : rr_choices.f K ⟨lu, false⟩ = some (p, r) := e2
                      obtain ⟨i1, i2⟩ := cb lu p r h1 e2'
                      rw [show ((40 : Nat) : Int) = 40 from rfl, atm lu p r e2' (by omega)]
                      cases b1 with
                      | true =>
                        rw [if_pos e3]
                        exact ⟨_, _, rfl, rfl, fun h => by cases h⟩
                      | false =>
                        rw [if_neg (by rw [e3]; decide)]
                        obtain ⟨e5, l', e6, e7⟩ := e4 rfl
                        rw [e6, Option.map_some] at hLx
                        rw [q2] at hLx
                        obtain ⟨lw, e8, e9⟩ := Option.map_eq_some_iff.1 hLx
                        rw [← e7, ← e9]
                        exact ⟨_, _, rfl, rfl, fun _ => ⟨e5, lw, e8, rfl⟩⟩
                  · rw [if_neg c6, obs]
                    refine rstop (by omega) s2 g3 (by omega) (by omega) (fun l hl => ?_)
                    obtain ⟨lu, rfl, h1⟩ := d3 l hl
                    obtain ⟨p, r, e2, e3, e4⟩ := g6 lu h1
                    have e2' : rr_choices.f K ⟨lu, false⟩ = some (p, r) := e2
                    obtain ⟨i1, i2⟩ := cb lu p r h1 e2'
                    rw [show ((40 : Nat) : Int) = 40 from rfl, atm lu p r e2' (by omega)]
                    cases b1 with
                    | true =>
                      rw [if_pos e3]
                      exact ⟨_, _, rfl, i1, i2, rfl⟩
                    | false =>
                      rw [if_neg (by rw [e3]; decide)]
                      obtain ⟨e5, l', e6, e7⟩ := e4 rfl
                      rw [e6, Option.map_some, e7] at hLx
                      have := tok_hd hb2 hLx 41 (by decide) (by decide)
                      have hc41 : ¬ (hd (dsp r.rest)).c = 41 := fun h => c6 (this.2 h)
                      have htl := tail_len r.rest
                      refine ⟨_, _, rfl, by show (dsp r.rest).tail.length ≤ _; omega, sgs_tail i2, ?_⟩
                      show ((hd (dsp r.rest)).c != 41) = true
                      simpa using hc41
                · rw [if_neg c5, obs]
                  refine rstop (Nat.le_refl _) ha (Grow.refl _) (by omega) (by omega) (fun l hl => ?_)
                  obtain ⟨hs, hll⟩ := Lx_sg hl
                  rw [List.length_drop] at hll
                  rcases tok_cases hb hl with ⟨h1, _⟩ | ⟨c, u, hr, ⟨h2, _⟩ | ⟨_, _, lu, rfl, _⟩⟩
                  · rw [h1] at h0; exact absurd rfl h0
                  · rw [hr] at hdg
                    exact absurd (show 48 ≤ ((c.toNat : Nat) : Int) ∧ ((c.toNat : Nat) : Int) ≤ 57 by unfold dig at h2; omega) hdg
                  · rw [hr] at c1 c2 c3 c4 c5
                    simp only [List.length_cons] at hll
                    refine ⟨⟨0, [], [], false⟩, ⟨lu, true⟩, ?_, by show lu.length ≤ _; omega, fun x hx => hs x (List.mem_cons_of_mem _ hx), rfl⟩
                    rw [fpart, rr_atom.f]
                    simp only [hd, List.tail_cons]
                    exact (if_neg (by decide)).trans ((if_neg c1).trans ((if_neg c2).trans ((if_neg c3).trans ((if_neg c4).trans (if_neg c5)))))
end Go.Proofs.YtafnenafbognkaaGreatDoor
namespace Go.Proofs.YtafnenafbognkaaGreatDoor
open Sp
set_option maxRecDepth 100000
set_option maxHeartbeats 4000000
theorem ChOk.mono {t : List UInt8} {n m : Nat} (h : ChOk t n) (hm : m ≤ n) : ChOk t m := fun a k K N h1 h2 => h a k K N h1 (by omega)
theorem tok_stop {r : List UInt8} (hb : bsp r = r) {l : List T_sg} (h : Lx r = some l) :
    ((hdb r = 0 ∨ hdb r = 124 ∨ hdb r = 41) → (hd l).digits = false ∧ ((hd l).c = 0 ∨ (hd l).c = 124 ∨ (hd l).c = 41)) ∧
    (¬ (hdb r = 0 ∨ hdb r = 124 ∨ hdb r = 41) → l ≠ [] ∧ ((hd l).digits = true ∨ ((hd l).digits = false ∧ ¬ (hd l).c = 0 ∧ ¬ (hd l).c = 124 ∧ ¬ (hd l).c = 41))) := by
  rcases tok_cases hb h with ⟨rfl, rfl⟩ | ⟨c, u, rfl, ⟨hdg, m, lu, rfl⟩ | ⟨_, _, lu, rfl, _⟩⟩
  · exact ⟨fun _ => ⟨rfl, .inl rfl⟩, fun h => absurd (.inl rfl) h⟩
  · unfold dig at hdg
    refine ⟨fun h => ?_, fun _ => ⟨by simp, .inl rfl⟩⟩
    have h' : ((c.toNat : Nat) : Int) = 0 ∨ ((c.toNat : Nat) : Int) = 124 ∨ ((c.toNat : Nat) : Int) = 41 := h
    exfalso; omega
  · refine ⟨fun h => ⟨rfl, h⟩, fun h => ⟨by simp, .inr ⟨rfl, fun h' => h (.inl h'), fun h' => h (.inr (.inl h')), fun h' => h (.inr (.inr h'))⟩⟩⟩
theorem part_bnd {K : Nat} {l : List T_sg} {q : T_pc} {r : T_regex_reader} (hs : sgs l) (hne : l ≠ []) (hl : l.length ≤ 200) (hK : 4 * l.length + 5 ≤ K) (h : ((fpart K l).bind fun z => rr_repeats.f K z.2 z.1) = some (q, r)) : r.rest.length < l.length ∧ sgs r.rest := by
  have hst : sgs l.tail := fun x hx => hs x (List.mem_of_mem_tail hx)
  have htl : l.tail.length + 1 = l.length := by
    cases l with
    | nil => exact absurd rfl hne
    | cons x l => simp
  obtain ⟨z, e1, e2⟩ := obx h
  obtain ⟨p, r0⟩ := z
  obtain ⟨_, _, _, _, hat⟩ := all_ok l.tail.length l.tail false rfl hst (by omega)
  obtain ⟨g1, g2, _⟩ := res_inv (hat K (hd l) (by omega) (hd_ok hs hne)) e1
  obtain ⟨q', r', e3, h1, _, h3, _⟩ := repeats_ok (k := K) (p := p) (l := r0.rest) (b := r0.bad) (by omega) g2
  rw [show (⟨r0.rest, r0.bad⟩ : T_regex_reader) = r0 from rfl] at e3
  simp only at e2
  rw [e3] at e2
  simp only [Option.some.injEq, Prod.mk.injEq] at e2
  obtain ⟨rfl, rfl⟩ := e2
  exact ⟨by omega, h3⟩
theorem rrow_l0 {t : List UInt8} (ht : t.length ≤ 200) (n : Nat) (ihc : ChOk t n) : ∀ (k a : Nat) (N : List T_r11_Node) (ks : List Int), a ≤ t.length → t.length - a ≤ n → bsp (t.drop a) = t.drop a → 2 * t.length + 60 + 6 * (t.length - a) + 4 ≤ k → N.length + 3 * (t.length - a) ≤ 5000 → ks.length + (t.length - a) ≤ 1000 →
    ∃ (a' : Nat) (N' : List T_r11_Node) (b' : Bool) (ks' : List Int), r11_P_row.l0 k (hdb (t.drop a)) (B t) (a : Int) N false ks = some (B t, ((a' : Nat) : Int), N', b', ks') ∧ a ≤ a' ∧ a' ≤ t.length ∧ Grow N N' ∧ N'.length + 3 * (t.length - a') ≤ N.length + 3 * (t.length - a) ∧
      (Lx (t.drop a) = none → b' = true ∨ Lx (t.drop a') = none) ∧
      ∀ l0, Lx (t.drop a) = some l0 → ∀ (K : Nat) (ps : List T_pc) (l : List T_sg), dsp l = l0 → sgs l → l.length ≤ t.length → NRs N ks ps → 5 * t.length + 20 + 4 * (t.length - a) + 2 ≤ K →
        ∃ ps' l', rr_row.l0 K ps l false = some (ps', l', b') ∧ (b' = false → NRs N' ks' ps' ∧ ∃ l1, Lx (t.drop a') = some l1 ∧ dsp l1 = dsp l')
  | 0, a, N, ks, _, _, _, h, _, _ => by omega
  | k + 1, a, N, ks, ha, hn, hb, hk, hN, hks => by
    rw [r11_P_row.l0, if_neg (by decide)]
    by_cases hst : hdb (t.drop a) = 0 ∨ hdb (t.drop a) = 124 ∨ hdb (t.drop a) = 41
    · have e : (if hdb (t.drop a) = 0 then (some (B t, (a : Int), N, false, ks)) else (if hdb (t.drop a) = 124 then (some (B t, (a : Int), N, false, ks)) else (if hdb (t.drop a) = 41 then (some (B t, (a : Int), N, false, ks)) else ((r11_P_part.f k (T_r11_P.mk (B t) (a : Int) N false)).bind fun y39 => ((Sp.app 8 ks [y39.1]).bind fun l47 => ((r11_P_sign.f k y39.2).bind fun y53 => (r11_P_row.l0 k y53.1 y53.2.S y53.2.At y53.2.N y53.2.Bad l47))))))) = some (B t, (a : Int), N, false, ks) := by
        rcases hst with h | h | h
        · rw [if_pos h]
        · rw [if_neg (by omega), if_pos h]
        · rw [if_neg (by omega), if_neg (by omega), if_pos h]
      rw [e]
      refine ⟨a, N, false, ks, rfl, Nat.le_refl _, ha, Grow.refl _, Nat.le_refl _, .inr, fun l0 hl0 K ps l hl hs hlen hps hK => ?_⟩
      obtain ⟨s1, s2⟩ := (tok_stop hb hl0).1 hst
      cases K with
      | zero => omega
      | succ K =>
        refine ⟨ps, l0, ?_, fun _ => ⟨hps, l0, hl0, rfl⟩⟩
        rw [rr_row.l0, if_neg (by decide), peek_eq (by omega), obs, hl]
        simp only
        rw [if_neg (by rw [s1]; decide)]
        rcases s2 with h | h | h
        · rw [if_pos h]
        · rw [if_neg (by omega), if_pos h]
        · rw [if_neg (by omega), if_neg (by omega), if_pos h]
    · rw [if_neg (fun h => hst (.inl h)), if_neg (fun h => hst (.inr (.inl h))), if_neg (fun h => hst (.inr (.inr h)))]
      have h0 : hdb (t.drop a) ≠ 0 := fun h => hst (.inl h)
      -- the fuel of the signs' reader does not matter to the other one: any will do
      have part := fun K hK => rpart ht (t.length - a) (ihc.mono hn) a k K N ha rfl hb h0 (by omega) hK hN
      obtain ⟨v1, a1, N1, b1, e, h1, hs1, h2, h3, h4, h5, _⟩ := part (5 * t.length + 20 + 4 * (t.length - a) + 1) (Nat.le_refl _)
      have hap : Sp.app 8 ks [v1] = some (ks ++ [v1]) := app_small (by simp; omega) (by decide)
      rw [e, obs]
      simp only
      rw [hap, obs]
      obtain ⟨a2, es, s1, s2, s3⟩ := sign_ok (k := k) (N := N1) (b := b1) (show t.length ≤ 1000 by omega) h2 (by omega)
      have hLx := Lx_bsp (t.drop a1)
      rw [← s3] at hLx
      have hb2 : bsp (t.drop a2) = t.drop a2 := by rw [s3, bsp_bsp]
      rw [es, obs]
      simp only
      -- the signs' reader takes the same part
      have sg : ∀ l0, Lx (t.drop a) = some l0 → ∀ (K : Nat) (ps : List T_pc) (l : List T_sg), dsp l = l0 → sgs l → l.length ≤ t.length → NRs N ks ps → 5 * t.length + 20 + 4 * (t.length - a) + 1 ≤ K →
          ∃ (p : T_pc) (r : T_regex_reader), rr_row.l0 (K + 1) ps l false = rr_row.l0 K (ps ++ [p]) r.rest b1 ∧ r.bad = b1 ∧ r.rest.length ≤ t.length ∧ sgs r.rest ∧ (b1 = false → NRs N1 (ks ++ [v1]) (ps ++ [p]) ∧ ∃ l', Lx (t.drop a1) = some l' ∧ dsp l' = dsp r.rest) := by
        intro l0 hl0 K ps l hl hs hlen hps hK
        obtain ⟨v', a', N', b', e', _, _, _, _, _, _, g⟩ := part K hK
        rw [e] at e'
        simp only [Option.some.injEq, Prod.mk.injEq, T_r11_P.mk.injEq] at e'
        obtain ⟨rfl, _, ea, rfl, rfl⟩ := e'
        obtain rfl : a1 = a' := by omega
        obtain ⟨p, r, f1, f2, f3⟩ := g l0 hl0
        have f1' : ((fpart K l0).bind fun z => rr_repeats.f K z.2 z.1) = some (p, r) := f1
        obtain ⟨t1, t2⟩ := (tok_stop hb hl0).2 hst
        obtain ⟨hs0, hl0len⟩ := Lx_sg hl0
        rw [List.length_drop] at hl0len
        obtain ⟨b1', b2'⟩ := part_bnd hs0 t1 (by omega) (by omega) f1'
        have hpl := nrs_len hps
        have hap2 : Sp.app 64 ps [p] = some (ps ++ [p]) := app_small (by simp; omega) (by decide)
        refine ⟨p, r, ?_, f2, by omega, b2', fun hbf => ?_⟩
        · have hnx : rr_next.f K ⟨l0, false⟩ = some (hd l0, ⟨l0.tail, false⟩) := by rw [next_eq (by omega), tok_dsp hb hl0]
          have go : ((rr_next.f K ⟨l0, false⟩).bind fun y34 => ((rr_atom.f K y34.2 y34.1).bind fun y38 => ((rr_repeats.f K y38.2 y38.1).bind fun y42 => ((Sp.app 64 ps [y42.1]).bind fun l50 => (rr_row.l0 K l50 y42.2.rest y42.2.bad))))) = rr_row.l0 K (ps ++ [p]) r.rest b1 := by
            rw [hnx, obs]
            simp only
            obtain ⟨z, z1, z2⟩ := obx f1'
            have z1' : rr_atom.f K ⟨l0.tail, false⟩ (hd l0) = some z := z1
            rw [z1', obs, z2, obs]
            simp only
            rw [hap2, obs, f2]
          rw [rr_row.l0, if_neg (by decide), peek_eq (by omega), obs, hl]
          simp only
          rcases t2 with t2 | ⟨t2, t3, t4, t5⟩
          · rw [if_pos t2]; exact go
          · rw [if_neg (by rw [t2]; decide), if_neg t3, if_neg t4, if_neg t5]; exact go
        · obtain ⟨g1, g2⟩ := f3 hbf
          exact ⟨(NRs.mono h3 hps).app g1, g2⟩
      cases b1 with
      | true =>
        cases k with
        | zero => omega
        | succ k =>
          rw [r11_P_row.l0, if_pos rfl]
          refine ⟨a2, N1, true, _, rfl, by omega, s2, h3, by omega, fun _ => .inl rfl, fun l0 hl0 K ps l hl hs hlen hps hK => ?_⟩
          cases K with
          | zero => omega
          | succ K =>
            obtain ⟨p, r, f1, _⟩ := sg l0 hl0 K ps l hl hs hlen hps (by omega)
            rw [f1]
            cases K with
            | zero => omega
            | succ K =>
              rw [rr_row.l0, if_pos rfl]
              exact ⟨_, _, rfl, fun h => by cases h⟩
      | false =>
        have hs1' := hs1 rfl
        obtain ⟨a', N', b', ks', e2, g1, g2, g3, g4, g5, g6⟩ := rrow_l0 ht n ihc k a2 N1 (ks ++ [v1]) s2 (by omega) hb2 (by omega) (by omega) (by simp; omega)
        refine ⟨a', N', b', ks', e2, by omega, g2, h3.trans g3, by omega, fun hh => ?_, fun l0 hl0 K ps l hl hs hlen hps hK => ?_⟩
        · rcases h5 hh with h | h
          · cases h
          · exact g5 (by rw [hLx, h]; rfl)
        · cases K with
          | zero => omega
          | succ K =>
            obtain ⟨p, r, f1, f2, f3, f4, f5⟩ := sg l0 hl0 K ps l hl hs hlen hps (by omega)
            rw [f1]
            obtain ⟨j1, l', j2, j3⟩ := f5 rfl
            rw [j2, Option.map_some, j3] at hLx
            exact g6 _ hLx K (ps ++ [p]) r.rest rfl f4 f3 j1 (by omega)
theorem rrow {t : List UInt8} (ht : t.length ≤ 200) (n : Nat) (ihc : ChOk t n) (a k K : Nat) (N : List T_r11_Node) (ha : a ≤ t.length) (hn : t.length - a ≤ n) (hk : 2 * t.length + 60 + 6 * (t.length - a) + 5 ≤ k) (hK : 5 * t.length + 20 + 4 * (t.length - a) + 3 ≤ K) (hN : N.length + 3 * (t.length - a) ≤ 5000) :
    ∃ (v : Int) (a' : Nat) (N' : List T_r11_Node) (b' : Bool), r11_P_row.f k ⟨B t, (a : Int), N, false⟩ = some (v, ⟨B t, ((a' : Nat) : Int), N', b'⟩) ∧ a ≤ a' ∧ a' ≤ t.length ∧ Grow N N' ∧ N'.length + 3 * (t.length - a') ≤ N.length + 3 * (t.length - a) + 1 ∧
    (Lx (t.drop a) = none → b' = true ∨ Lx (t.drop a') = none) ∧
    (∀ l0 l, Lx (t.drop a) = some l0 → dsp l = dsp l0 → sgs l → l.length ≤ t.length → ∃ p r, rr_row.f K ⟨l, false⟩ = some (p, r) ∧ r.bad = b' ∧ (b' = false → NR N' v p ∧ ∃ l', Lx (t.drop a') = some l' ∧ dsp l' = dsp r.rest)) := by
  cases k with
  | zero => omega
  | succ k =>
    obtain ⟨a1, es, s1, s2, s3⟩ := sign_ok (k := k) (N := N) (b := false) (show t.length ≤ 1000 by omega) ha (by omega)
    have hLx := Lx_bsp (t.drop a)
    rw [← s3] at hLx
    have hb1 : bsp (t.drop a1) = t.drop a1 := by rw [s3, bsp_bsp]
    rw [r11_P_row.f, es, obs]
    simp only
    obtain ⟨a2, N2, b2, ks, e, g1, g2, g3, g4, g5, g6⟩ := rrow_l0 ht n ihc k a1 N [] s2 (by omega) hb1 (by omega) (by omega) (by simp; omega)
    rw [e, obs]
    simp only
    obtain ⟨p1, p2⟩ := rput_ok (k := k) (S := B t) (A := ((a2 : Nat) : Int)) (N := N2) (b := b2) (nd := ⟨114, ks, [], [], false, false⟩) (by omega)
    rw [p1, obs]
    refine ⟨_, a2, _, b2, rfl, by omega, g2, g3.trans (Grow.app _ _), by simp; omega, fun hh => g5 (by rw [hLx, hh]; rfl), fun l0 l hl0 hl hs hlen => ?_⟩
    cases K with
    | zero => omega
    | succ K =>
      rw [hl0, Option.map_some] at hLx
      obtain ⟨ps', l', e1, e2⟩ := g6 _ hLx K [] l hl hs hlen .nil (by omega)
      rw [rr_row.f]
      simp only
      rw [e1, obs]
      refine ⟨_, _, rfl, rfl, fun hbf => ?_⟩
      obtain ⟨j1, j2⟩ := e2 hbf
      exact ⟨.row p2 rfl (j1.mono (Grow.app _ _)), j2⟩
theorem rch_l0 {t : List UInt8} (ht : t.length ≤ 200) (n : Nat) (ihc : ChOk t n) : ∀ (k a : Nat) (N : List T_r11_Node) (ks : List Int), a ≤ t.length → t.length - a ≤ n → 2 * t.length + 60 + 6 * (t.length - a) + 5 ≤ k → N.length + 3 * (t.length - a) ≤ 5001 → ks.length + (t.length - a) ≤ 1000 →
    ∃ (a' : Nat) (N' : List T_r11_Node) (b' : Bool) (ks' : List Int), r11_P_choices.l0 k ks (B t) (a : Int) N false = some (ks', B t, ((a' : Nat) : Int), N', b') ∧ a ≤ a' ∧ a' ≤ t.length ∧ Grow N N' ∧ N'.length + 3 * (t.length - a') ≤ N.length + 3 * (t.length - a) ∧
      (Lx (t.drop a) = none → b' = true ∨ Lx (t.drop a') = none) ∧
      ∀ l0, Lx (t.drop a) = some l0 → ∀ (K : Nat) (ps : List T_pc) (l : List T_sg), dsp l = dsp l0 → sgs l → l.length ≤ t.length → NRs N ks ps → 5 * t.length + 20 + 4 * (t.length - a) + 3 ≤ K →
        ∃ ps' l', rr_choices.l0 K ps l false = some (ps', l', b') ∧ (b' = false → NRs N' ks' ps' ∧ ∃ l1, Lx (t.drop a') = some l1 ∧ dsp l1 = dsp l')
  | 0, a, N, ks, _, _, h, _, _ => by omega
  | k + 1, a, N, ks, ha, hn, hk, hN, hks => by
    obtain ⟨a1, es, s1, s2, s3⟩ := sign_ok (k := k) (N := N) (b := false) (show t.length ≤ 1000 by omega) ha (by omega)
    have hLx := Lx_bsp (t.drop a)
    rw [← s3] at hLx
    have hb1 : bsp (t.drop a1) = t.drop a1 := by rw [s3, bsp_bsp]
    rw [r11_P_choices.l0, if_neg (by decide), es, obs]
    simp only
    by_cases hc : hdb (t.drop a1) = 124
    · obtain ⟨q1, q2⟩ := tok_step 124 (by decide) (by decide) (by decide) hc
      rw [if_pos hc, i64_nat (by omega)]
      have row := fun K hK => rrow ht n ihc (a1 + 1) k K N (by omega) (by omega) (by omega) hK (by omega)
      obtain ⟨v, a2, N2, b2, e, g1, g2, g3, g4, g5, _⟩ := row (5 * t.length + 20 + 4 * (t.length - (a1 + 1)) + 3) (Nat.le_refl _)
      have hap : Sp.app 8 ks [v] = some (ks ++ [v]) := app_small (by simp; omega) (by decide)
      rw [e, obs]
      simp only
      rw [hap, obs]
      have hnone : Lx (t.drop a) = none → b2 = true ∨ Lx (t.drop a2) = none := fun hh => g5 (by
        rw [hh, Option.map_none] at hLx
        rw [q2] at hLx
        exact Option.map_eq_none_iff.1 hLx)
      have sg : ∀ l0, Lx (t.drop a) = some l0 → ∀ (K : Nat) (ps : List T_pc) (l : List T_sg), dsp l = dsp l0 → sgs l → l.length ≤ t.length → NRs N ks ps → 5 * t.length + 20 + 4 * (t.length - a) + 2 ≤ K →
          ∃ (p : T_pc) (r : T_regex_reader), rr_choices.l0 (K + 1) ps l false = rr_choices.l0 K (ps ++ [p]) r.rest b2 ∧ r.bad = b2 ∧ r.rest.length ≤ t.length ∧ sgs r.rest ∧ (b2 = false → NRs N2 (ks ++ [v]) (ps ++ [p]) ∧ ∃ l', Lx (t.drop a2) = some l' ∧ dsp l' = dsp r.rest) := by
        intro l0 hl0 K ps l hl hs hlen hps hK
        obtain ⟨v', a', N', b', e', _, _, _, _, _, g⟩ := row K (by omega)
        rw [e] at e'
        simp only [Option.some.injEq, Prod.mk.injEq, T_r11_P.mk.injEq] at e'
        obtain ⟨rfl, _, ea, rfl, rfl⟩ := e'
        obtain rfl : a2 = a' := by omega
        rw [hl0, Option.map_some, q2] at hLx
        obtain ⟨lu, u1, u2⟩ := Option.map_eq_some_iff.1 hLx
        have hdl : dsp l = sgn 124 :: lu := by rw [hl, ← u2]; rfl
        have hlu : lu.length + 1 ≤ l.length := by have := dsp_len l; rw [hdl] at this; simpa using this
        have hslu : sgs lu := (Lx_sg u1).1
        obtain ⟨p, r, f1, f2, f3⟩ := g lu lu u1 rfl hslu (by omega)
        have hpl := nrs_len hps
        have hap2 : Sp.app 64 ps [p] = some (ps ++ [p]) := app_small (by simp; omega) (by decide)
        have hrow : Res lu false 1 1 (rr_row.f K ⟨lu, false⟩) := (all_ok lu.length lu false rfl hslu (by omega)).2.1 K (by omega)
        obtain ⟨b1', b2', _⟩ := res_inv hrow f1
        refine ⟨p, r, ?_, f2, by omega, b2', fun hbf => ?_⟩
        · have hnx : rr_next.f K ⟨dsp l, false⟩ = some (sgn 124, ⟨lu, false⟩) := by
            have := dsp_len l
            rw [next_eq (by omega), dsp_dsp, hdl]; rfl
          rw [rr_choices.l0, if_neg (by decide), peek_eq (by omega), obs]
          simp only
          rw [if_pos (by rw [hdl]; rfl), hnx, obs]
          simp only
          rw [f1, obs]
          simp only
          rw [hap2, obs, f2]
        · obtain ⟨j1, j2⟩ := f3 hbf
          exact ⟨(NRs.mono g3 hps).app j1, j2⟩
      cases b2 with
      | true =>
        cases k with
        | zero => omega
        | succ k =>
          rw [r11_P_choices.l0, if_pos rfl]
          refine ⟨a2, N2, true, _, rfl, by omega, g2, g3, by omega, fun _ => .inl rfl, fun l0 hl0 K ps l hl hs hlen hps hK => ?_⟩
          cases K with
          | zero => omega
          | succ K =>
            obtain ⟨p, r, f1, _⟩ := sg l0 hl0 K ps l hl hs hlen hps (by omega)
            rw [f1]
            cases K with
            | zero => omega
            | succ K =>
              rw [rr_choices.l0, if_pos rfl]
              exact ⟨_, _, rfl, fun h => by cases h⟩
      | false =>
        obtain ⟨a', N', b', ks', e2, j1, j2, j3, j4, j5, j6⟩ := rch_l0 ht n ihc k a2 N2 (ks ++ [v]) g2 (by omega) (by omega) (by omega) (by simp; omega)
        refine ⟨a', N', b', ks', e2, by omega, j2, g3.trans j3, by omega, fun hh => ?_, fun l0 hl0 K ps l hl hs hlen hps hK => ?_⟩
        · rcases hnone hh with h | h
          · cases h
          · exact j5 h
        · cases K with
          | zero => omega
          | succ K =>
            obtain ⟨p, r, f1, f2, f3, f4, f5⟩ := sg l0 hl0 K ps l hl hs hlen hps (by omega)
            rw [f1]
            obtain ⟨m1, l', m2, m3⟩ := f5 rfl
            exact j6 l' m2 K (ps ++ [p]) r.rest m3.symm f4 f3 m1 (by omega)
    · rw [if_neg hc]
      refine ⟨a1, N, false, ks, rfl, s1, s2, Grow.refl _, by omega, fun hh => .inr (by rw [hLx, hh]; rfl), fun l0 hl0 K ps l hl hs hlen hps hK => ?_⟩
      cases K with
      | zero => omega
      | succ K =>
        rw [hl0, Option.map_some] at hLx
        refine ⟨ps, dsp l, ?_, fun _ => ⟨hps, _, hLx, by rw [hl, dsp_dsp]⟩⟩
        rw [rr_choices.l0, if_neg (by decide), peek_eq (by omega), obs]
        simp only
        rw [if_neg (fun h => hc ((tok_hd hb1 hLx 124 (by decide) (by decide)).2 (by rw [← hl]; exact h)))]
theorem rch {t : List UInt8} (ht : t.length ≤ 200) : ∀ n, ChOk t n
  | 0 => fun a k K N h1 h2 => by omega
  | n + 1 => by
    intro a k K N ha hn hk hK hN
    have ihc := rch ht n
    cases k with
    | zero => omega
    | succ k =>
      cases K with
      | zero => omega
      | succ K =>
        obtain ⟨v, a1, N1, b1, e, g1, g2, g3, g4, g5, g6⟩ := rrow ht n ihc a k K N ha (by omega) (by omega) (by omega) (by omega)
        rw [r11_P_choices.f, e, obs]
        simp only
        have fin : ∀ (a2 : Nat) (N2 : List T_r11_Node) (b2 : Bool) (ks : List Int), a ≤ a2 → a2 ≤ t.length → Grow N N2 → N2.length + 3 * (t.length - a2) ≤ N.length + 3 * (t.length - a) + 1 → (Lx (t.drop a) = none → b2 = true ∨ Lx (t.drop a2) = none) →
            (∀ l, Lx (t.drop a) = some l → ∃ p r ps' l', rr_row.f K ⟨l, false⟩ = some (p, r) ∧ rr_choices.l0 K [p] r.rest r.bad = some (ps', l', b2) ∧ (b2 = false → NRs N2 ks ps' ∧ ∃ l1, Lx (t.drop a2) = some l1 ∧ dsp l1 = dsp l')) →
            ROut t a N 2 0 ((some (ks, B t, ((a2 : Nat) : Int), N2, b2) : Option (List Int × ByteArray × Int × List T_r11_Node × Bool)).bind fun (l26, s29, n30, l31, b34) => ((r11_P_put.f k (T_r11_P.mk s29 n30 l31 b34) (T_r11_Node.mk 99 l26 [] [] false false)).bind fun y57 => (some (y57.1, y57.2)))) (fun l => rr_choices.f (K + 1) ⟨l, false⟩) := by
          intro a2 N2 b2 ks h1 h2 h3 h4 h5 h6
          rw [obs]
          simp only
          obtain ⟨p1, p2⟩ := rput_ok (k := k) (S := B t) (A := ((a2 : Nat) : Int)) (N := N2) (b := b2) (nd := ⟨99, ks, [], [], false, false⟩) (by omega)
          rw [p1, obs]
          refine ⟨_, a2, _, b2, rfl, h1, fun _ => by omega, h2, h3.trans (Grow.app _ _), by simp; omega, h5, fun l hl => ?_⟩
          obtain ⟨p, r, ps', l', e1, e2, e3⟩ := h6 l hl
          refine ⟨⟨1, ps', [], false⟩, ⟨l', b2⟩, ?_, rfl, fun hbf => ?_⟩
          · show rr_choices.f (K + 1) ⟨l, false⟩ = _
            rw [rr_choices.f, e1, obs]
            simp only
            rw [e2, obs]
          · obtain ⟨j1, j2⟩ := e3 hbf
            exact ⟨.choice p2 rfl (j1.mono (Grow.app _ _)), j2⟩
        have rb : ∀ l p r, Lx (t.drop a) = some l → rr_row.f K ⟨l, false⟩ = some (p, r) → sgs l ∧ l.length ≤ t.length ∧ r.rest.length ≤ t.length ∧ sgs r.rest := by
          intro l p r hl e1
          obtain ⟨hs, hll⟩ := Lx_sg hl
          rw [List.length_drop] at hll
          obtain ⟨i1, i2, _⟩ := res_inv ((all_ok l.length l false rfl hs (by omega)).2.1 K (by omega)) e1
          exact ⟨hs, by omega, by omega, i2⟩
        cases b1 with
        | true =>
          have e0 : r11_P_choices.l0 k [v] (B t) ((a1 : Nat) : Int) N1 true = some ([v], B t, ((a1 : Nat) : Int), N1, true) := by
            cases k with
            | zero => omega
            | succ k => rw [r11_P_choices.l0, if_pos rfl]
          rw [e0]
          refine fin a1 N1 true [v] g1 g2 g3 g4 (fun _ => .inl rfl) fun l hl => ?_
          obtain ⟨hs, hll⟩ := Lx_sg hl
          rw [List.length_drop] at hll
          obtain ⟨p, r, e1, e2, _⟩ := g6 l l hl rfl hs (by omega)
          refine ⟨p, r, [p], r.rest, e1, ?_, fun h => by cases h⟩
          cases K with
          | zero => omega
          | succ K => rw [rr_choices.l0, e2, if_pos rfl]
        | false =>
          obtain ⟨a2, N2, b2, ks, e2, j1, j2, j3, j4, j5, j6⟩ := rch_l0 ht n ihc k a1 N1 [v] g2 (by omega) (by omega) (by omega) (by simp; omega)
          rw [e2]
          refine fin a2 N2 b2 ks (by omega) j2 (g3.trans j3) (by omega) (fun hh => ?_) fun l hl => ?_
          · rcases g5 hh with h | h
            · cases h
            · exact j5 h
          · obtain ⟨hs, hll⟩ := Lx_sg hl
            rw [List.length_drop] at hll
            obtain ⟨p, r, e1, f2, f3⟩ := g6 l l hl rfl hs (by omega)
            obtain ⟨_, _, rl, rs⟩ := rb l p r hl e1
            obtain ⟨m1, l', m2, m3⟩ := f3 rfl
            obtain ⟨ps', l1, e3, e4⟩ := j6 l' m2 K [p] r.rest m3.symm rs rl (.cons m1 .nil) (by omega)
            exact ⟨p, r, ps', l1, e1, by rw [f2]; exact e3, e4⟩
end Go.Proofs.YtafnenafbognkaaGreatDoor
namespace Go.Proofs.YtafnenafbognkaaGreatDoor
open Sp
set_option maxRecDepth 100000
set_option maxHeartbeats 4000000
theorem real_tail {k : Nat} (hk : 1000000 ≤ k) {sg : List T_sg} (hs : sgs sg) (hl : sg.length ≤ 200) {p : T_pc} {r : T_regex_reader} (hc : rr_choices.f k ⟨sg, false⟩ = some (p, r)) :
    ((r.bad = true ∨ (hd (dsp r.rest)).digits = true ∨ ¬ (hd (dsp r.rest)).c = 0) → ((rr_choices.f k (T_regex_reader.mk sg false)).bind fun y8 => ((rr_peek.f k y8.2).bind fun y13 => (if y13.2.bad = true then (some (none, 14)) else (if y13.1.digits = true then (some (none, 14)) else (if y13.1.c = 0 then ((regex_Expr_compile.f k (T_regex_Expr.mk y8.1 []) y8.1).bind fun y23 => ((Sp.app 56 y23.prog ([(T_regex_step.mk 4 [] false false (0, 0))])).bind fun l31 => (some ((some (T_regex_Expr.mk y23.top l31)), 0)))) else (some (none, 14))))))) = some ((none : Option T_regex_Expr), (14 : Int))) ∧
    (r.bad = false → (hd (dsp r.rest)).digits = false → (hd (dsp r.rest)).c = 0 → ∃ e : T_regex_Expr, ((rr_choices.f k (T_regex_reader.mk sg false)).bind fun y8 => ((rr_peek.f k y8.2).bind fun y13 => (if y13.2.bad = true then (some (none, 14)) else (if y13.1.digits = true then (some (none, 14)) else (if y13.1.c = 0 then ((regex_Expr_compile.f k (T_regex_Expr.mk y8.1 []) y8.1).bind fun y23 => ((Sp.app 56 y23.prog ([(T_regex_step.mk 4 [] false false (0, 0))])).bind fun l31 => (some ((some (T_regex_Expr.mk y23.top l31)), 0)))) else (some (none, 14))))))) = some (some e, (0 : Int)) ∧ e.top = p ∧ Pat k e) := by
  obtain ⟨p', r', e1, h1, h2, h3, h4⟩ := choices_ok (k := k) (l := sg) (b := false) (by omega) hs (by omega)
  rw [hc] at e1
  simp only [Option.some.injEq, Prod.mk.injEq] at e1
  obtain ⟨rfl, rfl⟩ := e1
  rw [hc, obs]
  have hp := peek_eq (k := k) (l := r.rest) (b := r.bad) (by omega)
  rw [show (⟨r.rest, r.bad⟩ : T_regex_reader) = r from rfl] at hp
  simp only
  rw [hp, obs]
  simp only
  constructor
  · intro h
    by_cases g1 : r.bad = true
    · rw [if_pos g1]
    · rw [if_neg g1]
      by_cases g2 : (hd (dsp r.rest)).digits = true
      · rw [if_pos g2]
      · rw [if_neg g2, if_neg]
        rcases h with h | h | h
        · exact absurd h g1
        · exact absurd h g2
        · exact h
  · intro g1 g2 g3
    rw [if_neg (by rw [g1]; decide), if_neg (by rw [g2]; decide), if_pos g3]
    obtain ⟨_, hw⟩ := h4 g1
    have hwt : wt p ≤ 1000 := by omega
    obtain ⟨q, eq, hV, hq1, hq2⟩ := comp_ok hw (k := k) (t := p) (p := []) (by omega) (fun _ h => by cases h) (by simp; omega)
    rw [eq, obs]
    have hql : q.length ≤ 4000 := by simp at hq2; omega
    have ha : Sp.app 56 q [(T_regex_step.mk 4 [] false false (0, 0))] = some (q ++ [lastStep]) := app_small (by simp; omega) (by decide)
    simp only
    rw [ha, obs]
    exact ⟨⟨p, q ++ [lastStep]⟩, rfl, rfl, hw, hwt, ⟨⟨q, hV, rfl⟩, by simp; omega⟩, q, eq, hV, hql, rfl⟩
theorem rp_l0 (t : List UInt8) (ht : t.length ≤ 200) : ∀ (k i : Nat), i ≤ t.length → t.length + 1 ≤ k + i → ∃ o, r11_Parse.l0 k (B t) (i : Int) = some o ∧ ((o = .inl (none, 0, 14) ∧ ∃ c ∈ t.drop i, c.toNat = 0) ∨ (o = .inr () ∧ ∀ c ∈ t.drop i, c.toNat ≠ 0))
  | 0, i, h1, h2 => by omega
  | k + 1, i, h1, h2 => by
    rw [r11_Parse.l0, B_size]
    by_cases hi : i < t.length
    · rw [if_pos (by omega), sat_B, List.getElem?_eq_getElem hi, Option.map_some, obs, i64_nat (by omega)]
      rw [List.drop_eq_getElem_cons hi]
      by_cases h0 : ((t[i].toNat : Nat) : Int) = 0
      · rw [if_pos h0]
        exact ⟨_, rfl, .inl ⟨rfl, _, List.mem_cons_self .., by omega⟩⟩
      · rw [if_neg h0]
        obtain ⟨o, e, h⟩ := rp_l0 t ht k (i + 1) (by omega) (by omega)
        refine ⟨o, e, h.imp (fun ⟨h3, c, h4, h5⟩ => ⟨h3, c, List.mem_cons_of_mem _ h4, h5⟩) fun ⟨h3, h4⟩ => ⟨h3, fun c hc => ?_⟩⟩
        rcases List.mem_cons.1 hc with rfl | hc
        · omega
        · exact h4 c hc
    · rw [if_neg (by omega)]
      refine ⟨_, rfl, .inr ⟨rfl, fun c hc => ?_⟩⟩
      rw [List.drop_eq_nil_of_le (by omega)] at hc
      cases hc
theorem Lx_zero : ∀ (n : Nat) (t : List UInt8), t.length ≤ n → (∃ c ∈ t, c.toNat = 0) → Lx t = none
  | _, [], _, h => by obtain ⟨c, hc, _⟩ := h; cases hc
  | 0, _ :: _, hl, _ => by simp at hl
  | n + 1, c :: r, hl, h => by
    simp only [List.length_cons] at hl
    by_cases hd' : dig c
    · obtain ⟨d, u, e, h1, h2⟩ := dig_split (c :: r)
      have hne : d ≠ [] := by
        rintro rfl
        exact h2 c r (by rw [e]; rfl) hd'
      have hdl := List.length_pos_iff.2 hne
      have hlen := congrArg List.length e
      simp only [List.length_cons, List.length_append] at hlen
      rw [e, Lx_num h1 hne h2]
      have : Lx u = none := Lx_zero n u (by omega) (by
        obtain ⟨x, hx, h0⟩ := h
        rw [e] at hx
        rcases List.mem_append.1 hx with hx | hx
        · have := h1 x hx
          unfold dig at this
          omega
        · exact ⟨x, hx, h0⟩)
      rw [this]
      cases numOf d <;> rfl
    · by_cases hb : blank c
      · rw [Lx_blank hb, Lx_zero n r (by omega) ?_]
        · rfl
        · obtain ⟨x, hx, h0⟩ := h
          rcases List.mem_cons.1 hx with rfl | hx
          · unfold blank at hb; omega
          · exact ⟨x, hx, h0⟩
      · by_cases hp : punctI c.toNat = true
        · rw [Lx_punct hd' hb hp, Lx_zero n r (by omega) ?_]
          · rfl
          · obtain ⟨x, hx, h0⟩ := h
            rcases List.mem_cons.1 hx with rfl | hx
            · rw [h0] at hp; exact absurd hp (by decide)
            · exact ⟨x, hx, h0⟩
        · exact Lx_none hd' hb hp
theorem parse_both {k : Nat} (hk : 5000000 ≤ k) (t : List UInt8) (ht : t.length ≤ 200) :
    ∃ r s, regex_Parse.f k (B t) = some r ∧ r11_Parse.f k (B t) = some s ∧
      ((r = (none, 4) ∧ s = (none, 0, 4)) ∨ (r = (none, 14) ∧ s = (none, 0, 14)) ∨ ∃ e S At N bad v, r = (some e, 0) ∧ s = (some ⟨S, At, N, bad⟩, v, 0) ∧ Pat k e ∧ NR N v e.top) := by
  rw [regex_Parse.f, r11_Parse.f, B_size]
  by_cases h100 : (t.length : Int) > 100
  · rw [if_pos h100, if_pos h100]
    exact ⟨_, _, rfl, rfl, .inl ⟨rfl, rfl⟩⟩
  · rw [if_neg h100, if_neg h100]
    obtain ⟨o, e0, h0⟩ := rp_l0 t ht k 0 (Nat.zero_le _) (by omega)
    rw [show ((0 : Nat) : Int) = 0 from rfl] at e0
    rw [List.drop_zero] at h0
    obtain ⟨sg, ok, es, f1, f2⟩ := signs_ok (k := k) (l := t) (by omega) (by omega)
    rw [e0, obs, es, obs]
    simp only
    rcases h0 with ⟨rfl, hz⟩ | ⟨rfl, hz⟩
    · have hL : Lx t = none := Lx_zero _ t (Nat.le_refl _) hz
      have hok : ok = false := by
        cases ok with
        | false => rfl
        | true => have := f1 rfl; rw [show lexS t [] [] = Lx t from rfl, hL] at this; cases this
      rw [if_neg (by rw [hok]; decide)]
      exact ⟨_, _, rfl, rfl, .inr (.inl ⟨rfl, rfl⟩)⟩
    · simp only
      obtain ⟨v, a, N, b, e, _, _, g2, _, _, g5, g6⟩ := rch (t := t) (by omega) (t.length + 1) 0 k k [] (Nat.zero_le _) (by omega) (by omega) (by omega) (by simp; omega)
      rw [List.drop_zero] at g5 g6
      rw [show ((0 : Nat) : Int) = 0 from rfl] at e
      rw [e, obs]
      simp only
      obtain ⟨a2, es2, s1, s2, s3⟩ := sign_ok (k := k) (N := N) (b := b) (show t.length ≤ 1000 by omega) g2 (by omega)
      have hLx := Lx_bsp (t.drop a)
      rw [← s3] at hLx
      have hb2 : bsp (t.drop a2) = t.drop a2 := by rw [s3, bsp_bsp]
      rw [es2, obs]
      simp only
      have hnz : hdb (t.drop a2) = 0 → t.drop a2 = [] := by
        intro h
        cases hr : t.drop a2 with
        | nil => rfl
        | cons c u =>
          rw [hr] at h
          have h' : ((c.toNat : Nat) : Int) = 0 := h
          exact absurd (show c.toNat = 0 by omega) (hz c (List.mem_of_mem_drop (by rw [hr]; exact List.mem_cons_self ..)))
      have bad14 : b = true ∨ ¬ hdb (t.drop a2) = 0 → ((if hdb (t.drop a2) = 0 then (some b) else (some true)).bind fun b26 => (if b26 = true then (some ((none : Option T_r11_P), (0 : Int), (14 : Int))) else (some ((some (T_r11_P.mk (B t) ((a2 : Nat) : Int) N b26)), v, 0)))) = some (none, 0, 14) := by
        rintro (h | h)
        · subst h
          split <;> rfl
        · rw [if_neg h]; rfl
      cases hL : Lx t with
      | none =>
        have hok : ok = false := by
          cases ok with
          | false => rfl
          | true => have := f1 rfl; rw [show lexS t [] [] = Lx t from rfl, hL] at this; cases this
        rw [if_neg (by rw [hok]; decide)]
        refine ⟨_, (none, 0, 14), rfl, bad14 ?_, .inr (.inl ⟨rfl, rfl⟩)⟩
        rcases g5 hL with h | h
        · exact .inl h
        · refine .inr fun h' => ?_
          rw [h, Option.map_none, hnz h', Lx_nil] at hLx
          cases hLx
      | some l =>
        have hok : ok = true := by
          cases ok with
          | true => rfl
          | false => have := f2 rfl; rw [show lexS t [] [] = Lx t from rfl, hL] at this; cases this
        subst hok
        have hsg : sg = l := by have := f1 rfl; rw [show lexS t [] [] = Lx t from rfl, hL] at this; exact (Option.some.inj this).symm
        subst hsg
        obtain ⟨hs, hll⟩ := Lx_sg hL
        obtain ⟨p, r, c1, c2, c3⟩ := g6 sg hL
        have c1' : rr_choices.f k ⟨sg, false⟩ = some (p, r) := c1
        obtain ⟨t1, t2⟩ := real_tail (k := k) (by omega) hs (by omega) c1'
        rw [if_pos rfl]
        by_cases hbad : b = true ∨ ¬ hdb (t.drop a2) = 0
        · refine ⟨(none, 14), (none, 0, 14), t1 ?_, bad14 hbad, .inr (.inl ⟨rfl, rfl⟩)⟩
          by_cases hb' : b = true
          · exact .inl (by rw [c2, hb'])
          · have hbf : b = false := by cases b with | true => exact absurd rfl hb' | false => rfl
            obtain ⟨_, l', d1, d2⟩ := c3 hbf
            rw [d1, Option.map_some] at hLx
            have hh := hbad.resolve_left hb'
            rw [d2] at hLx
            rcases tok_cases hb2 hLx with ⟨h1, _⟩ | ⟨c, u, h1, ⟨_, m, lu, h3⟩ | ⟨_, _, lu, h3, _⟩⟩
            · rw [h1] at hh; exact absurd rfl hh
            · rw [h3]; exact .inr (.inl rfl)
            · rw [h1] at hh
              rw [h3]
              exact .inr (.inr hh)
        · have hbf : b = false := by cases b with | true => exact absurd (.inl rfl) hbad | false => rfl
          subst hbf
          have hh : hdb (t.drop a2) = 0 := Classical.byContradiction fun h => hbad (.inr h)
          obtain ⟨d0, l', d1, d2⟩ := c3 rfl
          rw [d1, Option.map_some, d2, hnz hh, Lx_nil] at hLx
          have hnil : dsp r.rest = [] := (Option.some.inj hLx).symm
          obtain ⟨e', e2, e3, e4⟩ := t2 c2 (by rw [hnil]; rfl) (by rw [hnil]; rfl)
          refine ⟨_, _, e2, by rw [if_pos hh]; rfl, .inr (.inr ⟨e', B t, ((a2 : Nat) : Int), N, false, v, rfl, rfl, e4, by rw [e3]; exact d0⟩)⟩
theorem match_both {k : Nat} (hk : 5000000 ≤ k) (t : List UInt8) (ht : t.length ≤ 200) :
    ∃ r s, regex_Parse.f k (B t) = some r ∧ r11_Parse.f k (B t) = some s ∧ r.2 = s.2.2 ∧ (r.2 = 0 ∨ r.2 = 4 ∨ r.2 = 14) ∧
      ∀ l : List Int, l.length ≤ 900 → (∀ x ∈ l, 0 ≤ x ∧ x < 4294967296) → ∃ b, regex_Expr_Match.f k r.1 l = some b ∧ (r.2 = 0 → r11_P_Match.f k s.1 s.2.1 l = some b) ∧ (¬ r.2 = 0 → b = false) := by
  obtain ⟨r, s, e1, e2, h⟩ := parse_both hk t ht
  refine ⟨r, s, e1, e2, ?_⟩
  have nobody : ∀ l : List Int, regex_Expr_Match.f k none l = some false := fun l => by rw [regex_Expr_Match.f]; rfl
  rcases h with ⟨rfl, rfl⟩ | ⟨rfl, rfl⟩ | ⟨e, S, At, N, bad, v, rfl, rfl, h1, h2⟩
  · exact ⟨rfl, .inr (.inl rfl), fun l _ _ => ⟨false, nobody l, fun h => absurd h (by decide), fun _ => rfl⟩⟩
  · exact ⟨rfl, .inr (.inr rfl), fun l _ _ => ⟨false, nobody l, fun h => absurd h (by decide), fun _ => rfl⟩⟩
  · refine ⟨rfl, .inl rfl, fun l hl hw => ?_⟩
    obtain ⟨b, m1, m2⟩ := match_sem hk h1 l (by omega)
    obtain ⟨c, n1, n2⟩ := refmatch_ok hl (S := S) (At := At) (bad := bad) hw (show 10000 ≤ k by omega) h2 h1.2.1
    have hbc : b = c := by
      rw [Bool.eq_iff_iff, m2, n2]
    subst hbc
    exact ⟨b, m1, fun _ => n1, fun h => absurd rfl h⟩
end Go.Proofs.YtafnenafbognkaaGreatDoor
namespace Go.Proofs.YtafnenafbognkaaGreatDoor
open Sp
set_option maxRecDepth 100000
set_option maxHeartbeats 4000000
def le {α : Type} (a b : Option α) : Prop := ∀ r, a = some r → b = some r
theorem le.refl {α : Type} (a : Option α) : le a a := fun _ h => h
theorem le.trans {α : Type} {a b c : Option α} (h : le a b) (k : le b c) : le a c := fun r e => k r (h r e)
theorem le.bind {α β : Type} {a b : Option α} {f g : α → Option β} (h : le a b) (k : ∀ x, le (f x) (g x)) : le (a.bind f) (b.bind g) := fun r e => by
  obtain ⟨x, h1, h2⟩ := obx e
  rw [h x h1, obs]
  exact k x r h2
theorem le.ite {α : Type} {c : Prop} [Decidable c] {a b a' b' : Option α} (h : le a a') (k : le b b') : le (if c then a else b) (if c then a' else b') := by
  split
  · exact h
  · exact k
theorem le.none {α : Type} (b : Option α) : le none b := fun _ h => by cases h
theorem le.up {α : Type} {f : Nat → Option α} (h : ∀ k, le (f k) (f (k + 1))) {k m : Nat} (hk : k ≤ m) : le (f k) (f m) := by
  induction hk with
  | refl => exact le.refl _
  | step _ ih => exact ih.trans (h _)
theorem le_peek0 : ∀ k l, le (rr_peek.l0 k l) (rr_peek.l0 (k + 1) l)
  | 0, _ => le.none _
  | k + 1, l => by
    rw [rr_peek.l0, rr_peek.l0]
    repeat' first | exact le.refl _ | exact le_peek0 k _ | refine le.ite ?_ ?_ | refine le.bind ?_ fun _ => ?_
theorem le_peek (k : Nat) (x : T_regex_reader) : le (rr_peek.f k x) (rr_peek.f (k + 1) x) := by
  rw [rr_peek.f, rr_peek.f]
  exact le.bind (le_peek0 k _) fun _ => le.refl _
theorem le_next (k : Nat) (x : T_regex_reader) : le (rr_next.f k x) (rr_next.f (k + 1) x) := by
  rw [rr_next.f, rr_next.f]
  exact le.bind (le_peek k _) fun _ => le.refl _
theorem le_rep0 : ∀ k a b c d l e, le (rr_repeats.l0 k a b c d l e) (rr_repeats.l0 (k + 1) a b c d l e)
  | 0, _, _, _, _, _, _ => le.none _
  | k + 1, a, b, c, d, l, e => by
    rw [rr_repeats.l0, rr_repeats.l0]
    repeat' first | exact le.refl _ | exact le_peek k _ | exact le_next k _ | exact le_rep0 k _ _ _ _ _ _ | refine le.ite ?_ ?_ | refine le.bind ?_ fun _ => ?_
theorem le_rep (k : Nat) (x : T_regex_reader) (p : T_pc) : le (rr_repeats.f k x p) (rr_repeats.f (k + 1) x p) := by
  rw [rr_repeats.f, rr_repeats.f]
  exact le.bind (le_rep0 k _ _ _ _ _ _) fun _ => le.refl _
theorem le_set1 : ∀ k l b, le (rr_set.l1 k l b) (rr_set.l1 (k + 1) l b)
  | 0, _, _ => le.none _
  | k + 1, l, b => by
    rw [rr_set.l1, rr_set.l1]
    repeat' first | exact le.refl _ | exact le_peek k _ | exact le_next k _ | exact le_set1 k _ _ | refine le.ite ?_ ?_ | refine le.bind ?_ fun _ => ?_
theorem le_set0 : ∀ k n l b ss, le (rr_set.l0 k n l b ss) (rr_set.l0 (k + 1) n l b ss)
  | 0, _, _, _, _ => le.none _
  | k + 1, n, l, b, ss => by
    rw [rr_set.l0, rr_set.l0]
    repeat' first | exact le.refl _ | exact le_peek k _ | exact le_next k _ | exact le_set1 k _ _ | exact le_set0 k _ _ _ _ | refine le.ite ?_ ?_ | refine le.bind ?_ fun _ => ?_ | split
theorem le_set (k : Nat) (x : T_regex_reader) : le (rr_set.f k x) (rr_set.f (k + 1) x) := by
  rw [rr_set.f, rr_set.f]
  repeat' first | exact le.refl _ | exact le_peek k _ | exact le_next k _ | exact le_set0 k _ _ _ _ | refine le.ite ?_ ?_ | refine le.bind ?_ fun _ => ?_ | split
theorem le_grp : ∀ k, (∀ ps l b, le (rr_row.l0 k ps l b) (rr_row.l0 (k + 1) ps l b)) ∧ (∀ x, le (rr_row.f k x) (rr_row.f (k + 1) x)) ∧
    (∀ ps l b, le (rr_choices.l0 k ps l b) (rr_choices.l0 (k + 1) ps l b)) ∧ (∀ x, le (rr_choices.f k x) (rr_choices.f (k + 1) x)) ∧ (∀ x s, le (rr_atom.f k x s) (rr_atom.f (k + 1) x s))
  | 0 => ⟨fun _ _ _ => le.none _, fun _ => le.none _, fun _ _ _ => le.none _, fun _ => le.none _, fun _ _ => le.none _⟩
  | k + 1 => by
    obtain ⟨h1, h2, h3, h4, h5⟩ := le_grp k
    refine ⟨fun ps l b => ?_, fun x => ?_, fun ps l b => ?_, fun x => ?_, fun x s => ?_⟩
    · rw [rr_row.l0, rr_row.l0]
      repeat' first | exact le.refl _ | exact le_peek k _ | exact le_next k _ | exact le_rep k _ _ | exact h5 _ _ | exact h1 _ _ _ | refine le.ite ?_ ?_ | refine le.bind ?_ fun _ => ?_ | split
    · rw [rr_row.f, rr_row.f]
      repeat' first | exact le.refl _ | exact h1 _ _ _ | refine le.bind ?_ fun _ => ?_ | split
    · rw [rr_choices.l0, rr_choices.l0]
      repeat' first | exact le.refl _ | exact le_peek k _ | exact le_next k _ | exact h2 _ | exact h3 _ _ _ | refine le.ite ?_ ?_ | refine le.bind ?_ fun _ => ?_ | split
    · rw [rr_choices.f, rr_choices.f]
      repeat' first | exact le.refl _ | exact h2 _ | exact h3 _ _ _ | refine le.bind ?_ fun _ => ?_ | split
    · rw [rr_atom.f, rr_atom.f]
      repeat' first | exact le.refl _ | exact le_set k _ | exact le_next k _ | exact h4 _ | refine le.ite ?_ ?_ | refine le.bind ?_ fun _ => ?_
theorem le_choices {k m : Nat} (h : k ≤ m) (x : T_regex_reader) : le (rr_choices.f k x) (rr_choices.f m x) := le.up (f := fun k => rr_choices.f k x) (fun k => (le_grp k).2.2.2.1 x) h
theorem parse_fix (t : List UInt8) (ht : t.length ≤ 200) : ∃ (o : Option T_pc) (c : Int), (c = 0 ∨ c = 4 ∨ c = 14) ∧ (c = 0 ↔ o.isSome = true) ∧ ∀ k, 5000000 ≤ k → ∃ r : Option T_regex_Expr, regex_Parse.f k (B t) = some (r, c) ∧ r.map (·.top) = o ∧ ∀ e, r = some e → Pat k e := by
  obtain ⟨sg, ok, _, f1, f2⟩ := signs_ok (k := 5000000) (l := t) (by omega) (by omega)
  by_cases h100 : (t.length : Int) > 100
  · refine ⟨none, 4, .inr (.inl rfl), by simp, fun k hk => ⟨none, ?_, rfl, fun e h => by cases h⟩⟩
    rw [regex_Parse.f, B_size, if_pos h100]
  · have hsig : ∀ k, 5000000 ≤ k → ∃ sg' ok', regex_signs.f k (B t) = some (sg', ok') ∧ (ok' = true → ok = true ∧ sg' = sg) ∧ (ok' = false → ok = false) := by
      intro k hk
      obtain ⟨sg', ok', e, g1, g2⟩ := signs_ok (k := k) (l := t) (by omega) (by omega)
      refine ⟨sg', ok', e, fun h => ?_, fun h => ?_⟩
      · have := g1 h
        cases ok with
        | true => have h2 := f1 rfl; rw [this] at h2; exact ⟨rfl, Option.some.inj h2⟩
        | false => rw [f2 rfl] at this; cases this
      · have := g2 h
        cases ok with
        | true => rw [f1 rfl] at this; cases this
        | false => rfl
    cases ok with
    | false =>
      refine ⟨none, 14, .inr (.inr rfl), by simp, fun k hk => ⟨none, ?_, rfl, fun e h => by cases h⟩⟩
      obtain ⟨sg', ok', e, g1, _⟩ := hsig k hk
      rw [regex_Parse.f, B_size, if_neg h100, e, obs]
      cases ok' with
      | true => cases (g1 rfl).1
      | false => rfl
    | true =>
      obtain ⟨hs, hl⟩ := lex_sgs t [] [] sg (f1 rfl) (fun _ h => by cases h)
      simp only [List.length_nil] at hl
      obtain ⟨p, r, hc, _⟩ := choices_ok (k := 5000000) (l := sg) (b := false) (by omega) hs (by omega)
      have hck : ∀ k, 5000000 ≤ k → rr_choices.f k ⟨sg, false⟩ = some (p, r) := fun k hk => le_choices hk _ _ hc
      have main : ∀ k, 5000000 ≤ k → regex_Parse.f k (B t) = ((rr_choices.f k (T_regex_reader.mk sg false)).bind fun y8 => ((rr_peek.f k y8.2).bind fun y13 => (if y13.2.bad = true then (some (none, 14)) else (if y13.1.digits = true then (some (none, 14)) else (if y13.1.c = 0 then ((regex_Expr_compile.f k (T_regex_Expr.mk y8.1 []) y8.1).bind fun y23 => ((Sp.app 56 y23.prog ([(T_regex_step.mk 4 [] false false (0, 0))])).bind fun l31 => (some ((some (T_regex_Expr.mk y23.top l31)), 0)))) else (some (none, 14))))))) := by
        intro k hk
        obtain ⟨sg', ok', e, g1, g2⟩ := hsig k hk
        rw [regex_Parse.f, B_size, if_neg h100, e, obs]
        cases ok' with
        | false => cases g2 rfl
        | true =>
          obtain ⟨_, rfl⟩ := g1 rfl
          exact if_pos rfl
      by_cases hb : r.bad = true ∨ (hd (dsp r.rest)).digits = true ∨ ¬ (hd (dsp r.rest)).c = 0
      · refine ⟨none, 14, .inr (.inr rfl), by simp, fun k hk => ⟨none, ?_, rfl, fun e h => by cases h⟩⟩
        rw [main k hk]
        exact (real_tail (by omega) hs (by omega) (hck k hk)).1 hb
      · refine ⟨some p, 0, .inl rfl, by simp, fun k hk => ?_⟩
        obtain ⟨e, e1, e2, e3⟩ := (real_tail (k := k) (by omega) hs (by omega) (hck k hk)).2 (by cases hh : r.bad with | true => exact absurd (.inl hh) hb | false => rfl)
          (by cases hh : (hd (dsp r.rest)).digits with | true => exact absurd (.inr (.inl hh)) hb | false => rfl) (Classical.byContradiction fun hh => hb (.inr (.inr hh)))
        exact ⟨some e, by rw [main k hk, e1], by rw [Option.map_some, e2], fun e' he => by cases he; exact e3⟩
theorem pat_fix (t : List UInt8) (ht : t.length ≤ 200) : ∃ (c : Int) (M : List Int → Bool), (c = 0 ∨ c = 4 ∨ c = 14) ∧ (¬ c = 0 → ∀ l, M l = false) ∧ ∀ k, 5000000 ≤ k → ∃ r s, regex_Parse.f k (B t) = some r ∧ r11_Parse.f k (B t) = some s ∧ r.2 = c ∧ s.2.2 = c ∧
    ∀ l : List Int, l.length ≤ 900 → (∀ x ∈ l, 0 ≤ x ∧ x < 4294967296) → regex_Expr_Match.f k r.1 l = some (M l) ∧ (c = 0 → r11_P_Match.f k s.1 s.2.1 l = some (M l)) := by
  obtain ⟨o, c, hc, ho, h⟩ := parse_fix t ht
  obtain ⟨M, hM⟩ : ∃ M : List Int → Bool, ∀ l, M l = true ↔ ∃ p, o = some p ∧ ∃ i j, i ≤ l.length ∧ Sem (wt p) l p i j := by
    classical
    exact ⟨fun l => decide (∃ p, o = some p ∧ ∃ i j, i ≤ l.length ∧ Sem (wt p) l p i j), fun l => decide_eq_true_iff⟩
  refine ⟨c, M, hc, fun h0 l => ?_, fun k hk => ?_⟩
  · rw [Bool.eq_false_iff]
    intro hh
    obtain ⟨p, rfl, _⟩ := (hM l).1 hh
    exact h0 (ho.2 rfl)
  · obtain ⟨r, e1, e2, e3⟩ := h k hk
    obtain ⟨r', s, g1, g2, g3, _, g5⟩ := match_both hk t ht
    rw [e1] at g1
    obtain rfl := Option.some.inj g1
    refine ⟨_, s, e1, g2, rfl, g3.symm, fun l hl hw => ?_⟩
    obtain ⟨b, m1, m2, m3⟩ := g5 l hl hw
    simp only at m1 m2 m3
    suffices hb : b = M l by
      rw [← hb]; exact ⟨m1, m2⟩
    cases r with
    | none =>
      rw [Option.map_none] at e2
      subst e2
      have hb : b = false := m3 fun h0 => by (have := ho.1 h0; cases this)
      rw [hb, eq_comm, Bool.eq_false_iff]
      intro hh
      obtain ⟨p, hp, _⟩ := (hM l).1 hh
      cases hp
    | some e =>
      rw [Option.map_some] at e2
      obtain ⟨b', n1, n2⟩ := match_sem hk (e3 e rfl) l (by omega)
      rw [m1] at n1
      obtain rfl := Option.some.inj n1
      rw [Bool.eq_iff_iff, n2, hM]
      constructor
      · intro hh; exact ⟨_, e2.symm, hh⟩
      · rintro ⟨p, hp, hh⟩
        rw [← e2] at hp
        obtain rfl := Option.some.inj hp
        exact hh
end Go.Proofs.YtafnenafbognkaaGreatDoor
namespace Go.Proofs.YtafnenafbognkaaGreatDoor
open Sp
set_option maxRecDepth 100000
set_option maxHeartbeats 4000000
theorem i64_up {i n : Nat} (hi : i < n) (hn : n ≤ 9223372036854775807) : i64 ((i : Int) + 1) = ((i + 1 : Nat) : Int) := by rw [i64_id (by omega) (by omega)]; rfl
theorem findL {α β : Type} {l : List α} (hl : l.length ≤ 9223372036854775807) {F : Nat → Int → Option (Sum β Unit)} {P : Nat → α → Option Bool} {p : α → Bool} {m : Nat} {g : Int → β}
    (hF : ∀ k i, F (k + 1) i = if i < (l.length : Int) then ((lat l i).bind fun y => ((P k y).bind fun b => if b = true then some (.inl (g i)) else F k (i64 (i + 1)))) else some (.inr ()))
    (hp : ∀ y ∈ l, ∀ k, m ≤ k → P k y = some (p y)) : ∀ (k i : Nat), i ≤ l.length → m + (l.length - i) < k →
    ∃ o, F k (i : Int) = some o ∧ (((∃ j : Nat, o = .inl (g j)) ∧ (l.drop i).any p = true) ∨ (o = .inr () ∧ (l.drop i).any p = false))
  | 0, i, _, h => by omega
  | k + 1, i, h1, h2 => by
    rw [hF]
    by_cases hi : i < l.length
    · have hm : l[i] ∈ l := List.getElem_mem hi
      rw [if_pos (by omega), lat_nat, List.getElem?_eq_getElem hi, obs, hp _ hm k (by omega), obs, i64_up hi hl, List.drop_eq_getElem_cons hi, List.any_cons]
      cases hb : p l[i] with
      | true => exact ⟨_, if_pos rfl, .inl ⟨⟨i, rfl⟩, rfl⟩⟩
      | false =>
        rw [if_neg (by decide), Bool.false_or]
        exact findL hl hF hp k (i + 1) (by omega) (by omega)
    · rw [if_neg (by omega), List.drop_eq_nil_of_le (by omega)]
      exact ⟨_, rfl, .inr ⟨rfl, rfl⟩⟩
theorem allL {α β : Type} {l : List α} (hl : l.length ≤ 9223372036854775807) {F : Nat → Int → Option (Sum β Unit)} {P : Nat → α → Option Bool} {p : α → Bool} {m : Nat} {c : β}
    (hF : ∀ k i, F (k + 1) i = if i < (l.length : Int) then ((lat l i).bind fun y => ((P k y).bind fun b => if b = true then F k (i64 (i + 1)) else some (.inl c))) else some (.inr ()))
    (hp : ∀ y ∈ l, ∀ k, m ≤ k → P k y = some (p y)) : ∀ (k i : Nat), i ≤ l.length → m + (l.length - i) < k →
    F k (i : Int) = some (if (l.drop i).all p = true then .inr () else .inl c)
  | 0, i, _, h => by omega
  | k + 1, i, h1, h2 => by
    rw [hF]
    by_cases hi : i < l.length
    · have hm : l[i] ∈ l := List.getElem_mem hi
      rw [if_pos (by omega), lat_nat, List.getElem?_eq_getElem hi, obs, hp _ hm k (by omega), obs, i64_up hi hl, List.drop_eq_getElem_cons hi, List.all_cons]
      cases hb : p l[i] with
      | true =>
        rw [if_pos rfl, Bool.true_and]
        exact allL hl hF hp k (i + 1) (by omega) (by omega)
      | false => rfl
    · rw [if_neg (by omega), List.drop_eq_nil_of_le (by omega)]
      rfl
theorem containsF {α : Type} {l : List α} (hl : l.length ≤ 9223372036854775807) {F : Nat → Int → Option (Sum Int Unit)} {P : Nat → α → Option Bool} {p : α → Bool} {m k : Nat}
    (hF : ∀ k i, F (k + 1) i = if i < (l.length : Int) then ((lat l i).bind fun y => ((P k y).bind fun b => if b = true then some (.inl i) else F k (i64 (i + 1)))) else some (.inr ()))
    (hp : ∀ y ∈ l, ∀ k, m ≤ k → P k y = some (p y)) (hk : m + l.length < k) :
    (((F k 0).bind fun o => match o with | .inl r => some r | .inr _ => some (-1)).bind fun y1 => some (decide (y1 ≥ 0))) = some (l.any p) := by
  obtain ⟨o, e, h⟩ := findL hl hF hp k 0 (Nat.zero_le _) (by omega)
  rw [show ((0 : Nat) : Int) = 0 from rfl] at e
  rw [e, obs]
  rw [List.drop_zero] at h
  rcases h with ⟨⟨j, rfl⟩, h⟩ | ⟨rfl, h⟩
  · rw [h, obs]
    exact congrArg some (by simp)
  · rw [h, obs]
    rfl
def pR (p : T_api_Prefix) : Bool := decide (0 ≤ p.Len) && decide (p.Len ≤ 32) && decide (p.Addr % 2 ^ (32 - p.Len).toNat = 0)
theorem bv_and (a : Nat) (ha : a < 4294967296) (j : Nat) (hj : j ≤ 32) (y : Int) (hy : ~~~(BitVec.ofInt 32 y) = BitVec.ofNat 32 (2 ^ j - 1)) : bandNot .u32 (a : Int) y = ((a % 2 ^ j : Nat) : Int) := by
  show Go.IntKind.wrap .u32 (((BitVec.ofInt 32 (a : Int)) &&& ~~~(BitVec.ofInt 32 y) : BitVec 32).toNat : Int) = _
  have e1 : BitVec.ofInt 32 (a : Int) = BitVec.ofNat 32 a := by
    apply BitVec.eq_of_toNat_eq
    simp
  rw [e1, hy, BitVec.toNat_and]
  have h1 : (BitVec.ofNat 32 a).toNat = a := by simp; omega
  have hpow : 2 ^ j ≤ 2 ^ 32 := Nat.pow_le_pow_right (by decide) hj
  have hpos : 0 < 2 ^ j := Nat.pow_pos (by decide)
  have h2 : (BitVec.ofNat 32 (2 ^ j - 1)).toNat = 2 ^ j - 1 := by rw [BitVec.toNat_ofNat, Nat.mod_eq_of_lt (by omega)]
  rw [h1, h2, Nat.and_two_pow_sub_one_eq_mod]
  have := Nat.mod_le a (2 ^ j)
  show Go.IntKind.wrap .u32 ((a % 2 ^ j : Nat) : Int) = _
  generalize a % 2 ^ j = z at *
  unfold Go.IntKind.wrap
  simp only [Go.IntKind.signed, Go.IntKind.bits]
  simp
  omega
def maskOf (n : Nat) : Int := ((4294967296 - 2 ^ (32 - n) : Nat) : Int)
theorem mask_not : ∀ n : Fin 33, ~~~(BitVec.ofInt 32 (maskOf n.val)) = BitVec.ofNat 32 (2 ^ (32 - n.val) - 1) := by decide
theorem mask_shl : ∀ n : Fin 33, 0 < n.val → n.val < 32 → shl .u32 4294967295 ((32 - n.val : Nat) : Int) = maskOf n.val := by decide
theorem mask_ok (k n : Nat) (hn : n ≤ 32) : prefix_Mask.f k (n : Int) = some (maskOf n) := by
  rw [prefix_Mask.f]
  by_cases h0 : n = 0
  · subst h0; rfl
  · rw [if_neg (by omega)]
    by_cases h32 : n = 32
    · subst h32; rfl
    · rw [if_neg (by omega)]
      have e : i64 (32 - (n : Int)) = ((32 - n : Nat) : Int) := by rw [i64_id (by omega) (by omega)]; omega
      rw [e, show nn ((32 - n : Nat) : Int) = some () by unfold nn; rw [if_pos (by omega)], obs]
      exact congrArg some (mask_shl ⟨n, by omega⟩ (by show 0 < n; omega) (by show n < 32; omega))
def okP (p : T_api_Prefix) : Prop := 0 ≤ p.Addr ∧ p.Addr < 4294967296
theorem pright_ok (k : Nat) {p : T_api_Prefix} (hp : okP p) : prefix_Right.f k p = some (pR p) := by
  rw [prefix_Right.f]
  obtain ⟨a, n⟩ := p
  obtain ⟨h0, h1⟩ := hp
  simp only at h0 h1
  unfold pR
  simp only
  by_cases g0 : n ≥ 0
  · rw [if_pos g0]
    by_cases g1 : n ≤ 32
    · rw [if_pos g1]
      obtain ⟨m, rfl⟩ := Int.eq_ofNat_of_zero_le g0
      obtain ⟨b, rfl⟩ := Int.eq_ofNat_of_zero_le h0
      rw [mask_ok k m (by omega), obs]
      have e := bv_and b (by omega) (32 - m) (by omega) (maskOf m) (mask_not ⟨m, by omega⟩)
      rw [e]
      congr 1
      rw [show (32 - (m : Int)).toNat = 32 - m by omega]
      have hc : ((b : Int) % 2 ^ (32 - m)) = ((b % 2 ^ (32 - m) : Nat) : Int) := by
        rw [Int.natCast_emod]; simp
      rw [hc, decide_eq_true (show (0 : Int) ≤ (m : Int) by omega), decide_eq_true g1, Bool.true_and, Bool.true_and]
      generalize b % 2 ^ (32 - m) = z
      rw [Bool.eq_iff_iff]
      simp
    · rw [if_neg g1]; simp [g1]
  · rw [if_neg g0]; simp [show ¬ (0 ≤ n) from g0]
theorem rbit_l0 (j : Nat) : ∀ (k a b : Nat), j ≤ b → b ≤ 31 → a < 4294967296 → b < k + j → r02_Bit.l0 k (j : Int) (a : Int) (b : Int) = some ((a / 2 ^ (b - j) : Nat) : Int)
  | 0, a, b, h1, _, _, h => by omega
  | k + 1, a, b, h1, h2, h3, h => by
    rw [r02_Bit.l0]
    by_cases hb : b = j
    · subst hb
      rw [if_neg (by omega), Nat.sub_self, Nat.pow_zero, Nat.div_one]
    · rw [if_pos (by omega)]
      have e1 : i64 (((a : Int)).tdiv 2) = ((a / 2 : Nat) : Int) := by
        rw [show ((a : Int)).tdiv 2 = ((a / 2 : Nat) : Int) from rfl]
        exact i64_id (by omega) (by omega)
      have e2 : i64 ((b : Int) - 1) = ((b - 1 : Nat) : Int) := by rw [i64_id (by omega) (by omega)]; omega
      rw [e1, e2, rbit_l0 j k (a / 2) (b - 1) (by omega) (by omega) (by omega) (by omega)]
      congr 2
      rw [Nat.div_div_eq_div_mul, show b - j = (b - 1 - j) + 1 by omega, Nat.pow_succ, Nat.mul_comm]
theorem rbit_ok {k a j : Nat} (hj : j ≤ 31) (ha : a < 4294967296) (hk : 32 ≤ k) : r02_Bit.f k (a : Int) (j : Int) = some ((a / 2 ^ (31 - j) % 2 : Nat) : Int) := by
  rw [r02_Bit.f, if_neg (by omega), if_neg (by omega), i64_id (by omega) (by omega)]
  have := rbit_l0 j k a 31 (by omega) (by omega) ha (by omega)
  rw [show ((31 : Nat) : Int) = 31 from rfl] at this
  rw [this, obs]
  rfl
theorem rnorm_l0 (a n : Nat) (hn : n ≤ 32) (ha : a < 4294967296) : ∀ (k i v : Nat), i ≤ 32 → 65 ≤ k + i → v = (a / 2 ^ (32 - min i n)) * 2 ^ (i - min i n) → r02_Norm.l0 k (a : Int) (n : Int) (v : Int) (i : Int) = some (((a / 2 ^ (32 - n)) * 2 ^ (32 - n) : Nat) : Int)
  | 0, i, v, h1, h2, _ => by omega
  | k + 1, i, v, h1, h2, hv => by
    rw [r02_Norm.l0]
    have hvb : v < 2 ^ i := by
      rw [hv]
      have h1' : a / 2 ^ (32 - min i n) < 2 ^ min i n := by
        rw [Nat.div_lt_iff_lt_mul (Nat.pow_pos (by decide)), ← Nat.pow_add, show min i n + (32 - min i n) = 32 by omega]
        exact ha
      calc _ < 2 ^ min i n * 2 ^ (i - min i n) := Nat.mul_lt_mul_of_pos_right h1' (Nat.pow_pos (by decide))
        _ = 2 ^ i := by rw [← Nat.pow_add, show min i n + (i - min i n) = i by omega]
    by_cases hi : i < 32
    · have hp : 2 ^ i ≤ 2 ^ 31 := Nat.pow_le_pow_right (by decide) (by omega)
      have hi' : i64 ((i : Int) + 1) = ((i + 1 : Nat) : Int) := by rw [i64_id (by omega) (by omega)]; rfl
      have h2v : i64 (2 * (v : Int)) = ((2 * v : Nat) : Int) := by rw [i64_id (by omega) (by omega)]; rfl
      rw [if_pos (by omega), hi', h2v]
      by_cases hin : i < n
      · rw [if_pos (by omega), rbit_ok (by omega) ha (by omega), obs]
        have hb : a / 2 ^ (31 - i) % 2 < 2 := Nat.mod_lt _ (by decide)
        have e : i64 (((2 * v : Nat) : Int) + ((a / 2 ^ (31 - i) % 2 : Nat) : Int)) = ((2 * v + a / 2 ^ (31 - i) % 2 : Nat) : Int) := by rw [i64_id (by omega) (by omega)]; rfl
        rw [e]
        refine rnorm_l0 a n hn ha k (i + 1) _ (by omega) (by omega) ?_
        rw [hv, show min i n = i by omega, show min (i + 1) n = i + 1 by omega, Nat.sub_self, Nat.sub_self, Nat.pow_zero, Nat.mul_one, Nat.mul_one]
        have : a / 2 ^ (32 - i) = a / 2 ^ (31 - i) / 2 := by rw [Nat.div_div_eq_div_mul, show 32 - i = (31 - i) + 1 by omega, Nat.pow_succ]
        rw [this, show 32 - (i + 1) = 31 - i by omega]
        omega
      · rw [if_neg (by omega)]
        refine rnorm_l0 a n hn ha k (i + 1) _ (by omega) (by omega) ?_
        rw [hv, show min i n = n by omega, show min (i + 1) n = n by omega, show i + 1 - n = (i - n) + 1 by omega, Nat.pow_succ, Nat.mul_comm (2 ^ (i - n)) 2, Nat.mul_left_comm]
    · rw [if_neg (by omega), hv, show i = 32 by omega, show min 32 n = n by omega]
def normA (a : Int) (n : Nat) : Int := ((a.toNat / 2 ^ (32 - n)) * 2 ^ (32 - n) : Nat)
theorem rnorm_ok {k : Nat} {a n : Int} (h0 : 0 ≤ a) (h1 : a < 4294967296) (hk : 65 ≤ k) : ∃ m : Nat, m ≤ 32 ∧ (m : Int) = (if n < 0 then 0 else if n > 32 then 32 else n) ∧ r02_Norm.f k a n = some ⟨normA a m, (m : Int)⟩ := by
  obtain ⟨b, rfl⟩ := Int.eq_ofNat_of_zero_le h0
  have main : ∀ m : Nat, m ≤ 32 → ((r02_Norm.l0 k (b : Int) (m : Int) 0 0).bind fun n23 => (some (T_api_Prefix.mk (u32 n23) (m : Int)))) = some ⟨normA (b : Int) m, (m : Int)⟩ := by
    intro m hm
    have := rnorm_l0 b m hm (by omega) k 0 0 (by omega) (by omega) (by
      rw [show min 0 m = 0 by omega, Nat.sub_zero, Nat.div_eq_of_lt (by omega), Nat.zero_mul])
    rw [show ((0 : Nat) : Int) = 0 from rfl] at this
    rw [this, obs]
    have hle : b / 2 ^ (32 - m) * 2 ^ (32 - m) ≤ b := Nat.div_mul_le_self _ _
    have e : u32 (((b / 2 ^ (32 - m)) * 2 ^ (32 - m) : Nat) : Int) = (((b / 2 ^ (32 - m)) * 2 ^ (32 - m) : Nat) : Int) := by
      unfold u32 Go.IntKind.wrap
      simp only [Go.IntKind.signed, Go.IntKind.bits]
      generalize b / 2 ^ (32 - m) * 2 ^ (32 - m) = v at *
      simp
      omega
    rw [e]
    rfl
  rw [r02_Norm.f]
  by_cases g0 : n < 0
  · simp only [if_pos g0, obs]
    exact ⟨0, by omega, rfl, main 0 (by omega)⟩
  · simp only [if_neg g0, obs]
    by_cases g1 : n > 32
    · simp only [if_pos g1, obs]
      exact ⟨32, by omega, rfl, main 32 (by omega)⟩
    · simp only [if_neg g1, obs]
      obtain ⟨m, rfl⟩ := Int.eq_ofNat_of_zero_le (show 0 ≤ n by omega)
      exact ⟨m, by omega, rfl, main m (by omega)⟩
theorem normA_eq {a : Int} (h0 : 0 ≤ a) (n : Nat) : (normA a n == a) = decide (a % 2 ^ (32 - n) = 0) := by
  obtain ⟨b, rfl⟩ := Int.eq_ofNat_of_zero_le h0
  unfold normA
  rw [Int.toNat_natCast]
  have hc : ((b : Int) % 2 ^ (32 - n)) = ((b % 2 ^ (32 - n) : Nat) : Int) := by
    rw [Int.natCast_emod]; simp
  rw [hc]
  have hd := Nat.div_add_mod b (2 ^ (32 - n))
  rw [Nat.mul_comm] at hd
  generalize b / 2 ^ (32 - n) * 2 ^ (32 - n) = v at *
  generalize b % 2 ^ (32 - n) = w at *
  rw [Bool.eq_iff_iff]
  simp
  omega
theorem rpright_ok {k : Nat} (hk : 65 ≤ k) {p : T_api_Prefix} (hp : okP p) : r02_Right.f k p = some (pR p) := by
  obtain ⟨h0, h1⟩ := hp
  obtain ⟨m, hm, he, e⟩ := rnorm_ok (n := p.Len) h0 h1 hk
  rw [r02_Right.f, e, obs]
  simp only
  rw [normA_eq h0]
  unfold pR
  congr 1
  by_cases g0 : p.Len < 0
  · rw [if_pos g0] at he
    have : ((m : Int) == p.Len) = false := by simp; omega
    rw [this, Bool.and_false, decide_eq_false (show ¬ (0 ≤ p.Len) by omega), Bool.false_and, Bool.false_and]
  · rw [if_neg g0] at he
    by_cases g1 : p.Len > 32
    · rw [if_pos g1] at he
      have : ((m : Int) == p.Len) = false := by simp; omega
      rw [this, Bool.and_false, decide_eq_false (show ¬ (p.Len ≤ 32) by omega), Bool.and_false, Bool.false_and]
    · rw [if_neg g1] at he
      rw [he, beq_self_eq_true, Bool.and_true, decide_eq_true (show 0 ≤ p.Len by omega), decide_eq_true (show p.Len ≤ 32 by omega), Bool.true_and, Bool.true_and]
      rw [show (32 - p.Len).toNat = 32 - m by omega]
def rgR (x : T_api_Range) : Bool := pR x.Prefix && decide (x.Min ≥ x.Prefix.Len) && decide (x.Min ≤ x.Max) && decide (x.Max ≤ 32)
theorem fright_ok (k : Nat) {x : T_api_Range} (hp : okP x.Prefix) : filter_Right.f k x = some (rgR x) := by
  rw [filter_Right.f, pright_ok k hp, obs]
  unfold rgR
  by_cases g : pR x.Prefix = true
  · rw [if_pos g, g]
    by_cases g1 : x.Min ≥ x.Prefix.Len
    · rw [if_pos g1]
      by_cases g2 : x.Min ≤ x.Max
      · rw [if_pos g2]; simp [g1, g2]
      · rw [if_neg g2]; simp [g2]
    · rw [if_neg g1]; simp [g1]
  · rw [if_neg g]; simp [g]
theorem rfright_ok {k : Nat} (hk : 65 ≤ k) {x : T_api_Range} (hp : okP x.Prefix) : r12_Right.f k x = some (rgR x) := by
  rw [r12_Right.f, rpright_ok hk hp, obs]
  unfold rgR
  by_cases g : pR x.Prefix = true
  · rw [if_pos g, g]
    by_cases g1 : x.Min ≥ x.Prefix.Len
    · rw [if_pos g1]
      by_cases g2 : x.Max ≥ x.Min
      · rw [if_pos g2]; simp [g1, show x.Min ≤ x.Max from g2]
      · rw [if_neg g2]; simp [show ¬ x.Min ≤ x.Max from g2]
    · rw [if_neg g1]; simp [g1]
  · rw [if_neg g]; simp [g]
end Go.Proofs.YtafnenafbognkaaGreatDoor
namespace Go.Proofs.YtafnenafbognkaaGreatDoor
open Sp
set_option maxRecDepth 100000
set_option maxHeartbeats 4000000
def ok_api_Prefix (x : T_api_Prefix) : Prop := (fun n => (Go.Lit.int .u32 n).wf = true) x.Addr ∧ (fun n => (Go.Lit.int .i64 n).wf = true) x.Len
def ok_api_Range (x : T_api_Range) : Prop := ok_api_Prefix x.Prefix ∧ (fun n => (Go.Lit.int .i64 n).wf = true) x.Min ∧ (fun n => (Go.Lit.int .i64 n).wf = true) x.Max
def ok_api_Cond (x : T_api_Cond) : Prop := (fun n => (Go.Lit.int .i64 n).wf = true) x.Kind ∧ (fun _ => True) x.Not ∧ (fun n => (Go.Lit.int .i64 n).wf = true) x.Num ∧ (fun n => (Go.Lit.int .u32 n).wf = true) x.Addr ∧ (fun s => s.size ≤ Go.maxLen) x.Text ∧ (fun l => l.length ≤ Go.maxLen ∧ ∀ x ∈ l, ok_api_Range x) x.Range ∧ (fun l => l.length ≤ Go.maxLen ∧ ∀ x ∈ l, (fun n => (Go.Lit.int .u32 n).wf = true) x) x.Comms
def ok_api_Segment (x : T_api_Segment) : Prop := (fun n => (Go.Lit.int .i64 n).wf = true) x.Kind ∧ (fun l => l.length ≤ Go.maxLen ∧ ∀ x ∈ l, (fun n => (Go.Lit.int .u32 n).wf = true) x) x.AS
def ok_api_Raw (x : T_api_Raw) : Prop := (fun n => (Go.Lit.int .i64 n).wf = true) x.Flags ∧ (fun n => (Go.Lit.int .i64 n).wf = true) x.Type_ ∧ (fun l => l.length ≤ Go.maxLen ∧ ∀ x ∈ l, (fun n => (Go.Lit.int .u8 n).wf = true) x) x.Data
def ok_api_Attrs (x : T_api_Attrs) : Prop := (fun n => (Go.Lit.int .i64 n).wf = true) x.Origin ∧ (fun l => l.length ≤ Go.maxLen ∧ ∀ x ∈ l, ok_api_Segment x) x.Path ∧ (fun n => (Go.Lit.int .u32 n).wf = true) x.Next ∧ (fun n => (Go.Lit.int .i64 n).wf = true) x.Med ∧ (fun n => (Go.Lit.int .i64 n).wf = true) x.Pref ∧ (fun _ => True) x.Atomic ∧ (fun _ => True) x.HasAggr ∧ (fun n => (Go.Lit.int .u32 n).wf = true) x.AggrAS ∧ (fun n => (Go.Lit.int .u32 n).wf = true) x.AggrAddr ∧ (fun l => l.length ≤ Go.maxLen ∧ ∀ x ∈ l, (fun n => (Go.Lit.int .u32 n).wf = true) x) x.Comms ∧ (fun l => l.length ≤ Go.maxLen ∧ ∀ x ∈ l, ok_api_Raw x) x.Raws
end Go.Proofs.YtafnenafbognkaaGreatDoor
