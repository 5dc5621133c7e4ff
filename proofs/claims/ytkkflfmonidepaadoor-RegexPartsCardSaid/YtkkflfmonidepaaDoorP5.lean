/-
  A PROGRAM THAT WAS COMPILED ANSWERS, on any list.
-/
import Derived.Test.YtkkflfmonidepaaDoorP4
namespace Go.Proofs.YtkkflfmonidepaaDoor
open Sp
set_option maxRecDepth 100000
set_option maxHeartbeats 4000000

def lastStep : T_regex_step := ⟨4, [], false, false, (0, 0)⟩
/-- A whole program: places within, then the last step. -/
def Val (p : List T_regex_step) : Prop := (∃ q, V q ∧ p = q ++ [lastStep]) ∧ p.length ≤ 1000000
theorem Val.at {p : List T_regex_step} (h : Val p) {i : Int} (h0 : 0 ≤ i) (h1 : i < p.length) :
    ∃ s, lat p i = some s ∧ (s.op = 1 → (0 ≤ s.to_.1 ∧ s.to_.1 < p.length) ∧ (0 ≤ s.to_.2 ∧ s.to_.2 < p.length)) ∧ (s.op = 0 ∨ s.op = 2 ∨ s.op = 3 → i + 1 < p.length) := by
  obtain ⟨⟨q, hV, rfl⟩, _⟩ := h
  have hl : (q ++ [lastStep]).length = q.length + 1 := by simp
  rw [hl] at h1 ⊢
  by_cases hi : i < q.length
  · obtain ⟨s, e, hs⟩ := hV.get h0 hi
    refine ⟨s, ?_, fun _ => ⟨⟨hs.2.1.1, by have := hs.2.1.2; omega⟩, ⟨hs.2.2.1, by have := hs.2.2.2; omega⟩⟩, fun _ => by omega⟩
    unfold lat at e ⊢
    rw [if_pos h0] at e ⊢
    rw [List.getElem?_append_left (by omega)]
    exact e
  · refine ⟨lastStep, ?_, fun h => absurd h (by decide), fun h => absurd h (by decide)⟩
    unfold lat
    rw [if_pos h0, List.getElem?_append_right (by omega), show i.toNat - q.length = 0 by omega]
    rfl
theorem Val.spans {p : List T_regex_step} (h : Val p) : ∀ s ∈ p, s.spans.length ≤ 1000000 := by
  obtain ⟨⟨q, hV, rfl⟩, _⟩ := h
  intro s hs
  rcases List.mem_append.1 hs with hs | hs
  · exact (hV s hs).1.2
  · simp at hs; subst hs; exact Nat.zero_le _
theorem Val.pos {p : List T_regex_step} (h : Val p) : 0 < p.length := by
  obtain ⟨⟨q, _, rfl⟩, _⟩ := h
  simp

def cf : List Bool → Nat
  | [] => 0
  | b :: l => (if b then 0 else 1) + cf l
theorem cf_set : ∀ {l : List Bool} {i : Nat}, l[i]? = some false → cf (l.set i true) + 1 = cf l
  | [], _, h => by simp at h
  | b :: l, 0, h => by
    simp at h; subst h
    simp [cf]; omega
  | b :: l, i + 1, h => by
    simp only [List.getElem?_cons_succ] at h
    have := cf_set h
    simp only [List.set_cons_succ, cf]
    omega
theorem cf_le : ∀ l : List Bool, cf l ≤ l.length
  | [] => Nat.le_refl _
  | b :: l => by simp only [cf, List.length_cons]; have := cf_le l; split <;> omega

theorem add_ok (e : T_regex_Expr) (hV : Val e.prog) (i n : Int) : ∀ (k : Nat) (set : List Bool) (a : Int), set.length = e.prog.length → 0 ≤ a → a < e.prog.length → cf set < k →
    ∃ s', regex_Expr_add.f k (some e) set a i n = some s' ∧ s'.length = set.length ∧ cf s' ≤ cf set
  | 0, _, _, _, _, _, h => by omega
  | k + 1, set, a, hl, h0, h1, hk => by
    rw [regex_Expr_add.f]
    obtain ⟨b, eb, eb2⟩ := lat_lt (l := set) h0 (by omega)
    rw [eb]
    simp only [Option.bind_some]
    have hlen : e.prog.length ≤ 1000000 := hV.2
    by_cases hb : b = true
    · rw [if_pos hb]
      exact ⟨set, rfl, rfl, Nat.le_refl _⟩
    · rw [if_neg hb]
      obtain ⟨s, es, hs1, hs2⟩ := hV.at h0 h1
      rw [es]
      simp only [Option.bind_some]
      have hbf : set[a.toNat]? = some false := by rw [eb2]; simpa using hb
      have hc := cf_set hbf
      have hl1 : (set.set a.toNat true).length = e.prog.length := by rw [List.length_set]; exact hl
      split
      · rename_i ho
        obtain ⟨⟨t1, t2⟩, t3, t4⟩ := hs1 ho
        obtain ⟨s1, e1, l1, c1'⟩ := add_ok e hV i n k (set.set a.toNat true) s.to_.1 hl1 t1 t2 (by omega)
        rw [e1]
        simp only [Option.bind_some]
        obtain ⟨s2, e2, l2, c2⟩ := add_ok e hV i n k s1 s.to_.2 (by rw [l1]; exact hl1) t3 t4 (by omega)
        rw [e2]
        exact ⟨s2, rfl, by rw [l2, l1, List.length_set], by omega⟩
      · have self : ∃ s', (some (set.set a.toNat true) : Option (List Bool)) = some s' ∧ s'.length = set.length ∧ cf s' ≤ cf set := ⟨_, rfl, List.length_set .., by omega⟩
        have go : (s.op = 0 ∨ s.op = 2 ∨ s.op = 3) → ∃ s', ((regex_Expr_add.f k (some e) (set.set a.toNat true) (i64 (a + 1)) i n).bind fun y => some y) = some s' ∧ s'.length = set.length ∧ cf s' ≤ cf set := by
          intro ho
          have := hs2 ho
          rw [i64_id (by omega) (by omega)]
          obtain ⟨s1, e1, l1, c1'⟩ := add_ok e hV i n k (set.set a.toNat true) (a + 1) hl1 (by omega) this (by omega)
          rw [e1]
          exact ⟨s1, rfl, by rw [l1, List.length_set], by omega⟩
        split
        · rename_i ho
          split
          · exact go (.inr (.inl ho))
          · exact self
        · split
          · rename_i ho
            split
            · exact go (.inr (.inr ho))
            · exact self
          · exact self

theorem takes_l0 (s : T_regex_step) (n : Int) (hb : s.spans.length ≤ 1000000000) : ∀ (k j : Nat), j ≤ s.spans.length → s.spans.length < k + j → ∃ r, regex_step_takes.l0 k s n (j : Int) = some r
  | 0, _, _, h => by omega
  | k + 1, j, hj, hk => by
    rw [regex_step_takes.l0]
    by_cases hlt : j < s.spans.length
    · rw [if_pos (by omega), lat_nat, List.getElem?_eq_getElem hlt]
      simp only [Option.bind_some]
      rw [i64_id (by omega) (by omega), show ((j : Int) + 1) = ((j + 1 : Nat) : Int) by omega]
      obtain ⟨r, e⟩ := takes_l0 s n hb k (j + 1) (by omega) (by omega)
      split
      · split
        · exact ⟨_, rfl⟩
        · exact ⟨r, e⟩
      · exact ⟨r, e⟩
    · rw [if_neg (by omega)]
      exact ⟨_, rfl⟩
theorem takes_ok {k : Nat} {s : T_regex_step} {n : Int} (hb : s.spans.length ≤ 1000000000) (hk : s.spans.length < k) : ∃ r, regex_step_takes.f k s n = some r := by
  rw [regex_step_takes.f]
  split
  · exact ⟨_, rfl⟩
  · obtain ⟨r, e⟩ := takes_l0 s n hb k 0 (Nat.zero_le _) (by omega)
    rw [show ((0 : Nat) : Int) = 0 from rfl] at e
    rw [e]
    cases r <;> exact ⟨_, rfl⟩

theorem match_l1 (e : T_regex_Expr) (hV : Val e.prog) (hsp : ∀ s ∈ e.prog, s.spans.length ≤ 1000000) (l : List Int) (i : Nat) (hi : i < l.length) (hll : l.length ≤ 1000000) (set : List Bool) (hset : set.length = e.prog.length) :
    ∀ (k j : Nat) (nx : List Bool), j ≤ set.length → set.length + 1000000 + 10 + e.prog.length < k + j → nx.length = e.prog.length →
      ∃ r, regex_Expr_Match.l1 k (some e) l e (i : Int) set nx (j : Int) = some r ∧ r.length = e.prog.length
  | 0, j, _, hj, h, _ => by omega
  | k + 1, j, nx, hj, hk, hn => by
    have hlen : e.prog.length ≤ 1000000 := hV.2
    rw [regex_Expr_Match.l1]
    by_cases hlt : j < set.length
    · rw [if_pos (by omega), lat_nat, List.getElem?_eq_getElem hlt]
      simp only [Option.bind_some]
      rw [i64_id (n := (j : Int) + 1) (by omega) (by omega), show ((j : Int) + 1) = ((j + 1 : Nat) : Int) by omega]
      have go : ∀ nx' : List Bool, nx'.length = e.prog.length → ∃ r, regex_Expr_Match.l1 k (some e) l e (i : Int) set nx' ((j + 1 : Nat) : Int) = some r ∧ r.length = e.prog.length := fun nx' h => match_l1 e hV hsp l i hi hll set hset k (j + 1) nx' (by omega) (by omega) h
      split
      · obtain ⟨s, es, hs1, hs2⟩ := hV.at (i := (j : Int)) (by omega) (by omega)
        rw [es]
        simp only [Option.bind_some]
        split
        · rename_i ho
          rw [lat_nat, List.getElem?_eq_getElem hi]
          simp only [Option.bind_some]
          have hsm : s ∈ e.prog := by
            have := (lat_ok es).2.2
            exact List.mem_of_getElem? this
          obtain ⟨b, eb⟩ := takes_ok (k := k) (s := s) (n := l[i]) (by have := hsp s hsm; omega) (by have := hsp s hsm; omega)
          rw [eb]
          simp only [Option.bind_some]
          split
          · have hj1 := hs2 (.inl ho)
            obtain ⟨nx', e1, h1, _⟩ := add_ok e hV (i64 ((i : Int) + 1)) (l.length : Int) k nx ((j + 1 : Nat) : Int) hn (by omega) (by omega) (by have := cf_le nx; omega)
            rw [e1]
            exact go nx' (by rw [h1, hn])
          · exact go nx hn
        · exact go nx hn
      · exact go nx hn
    · rw [if_neg (by omega)]
      exact ⟨nx, rfl, hn⟩

theorem made_ok (n : Nat) (h : n ≤ 1000000) : made 1 false (n : Int) = some (List.replicate n false) := by
  unfold made
  rw [if_pos]
  · simp
  · refine ⟨by omega, by omega, ?_⟩
    unfold Go.maxLen; omega

theorem match_l0 (e : T_regex_Expr) (hV : Val e.prog) (hsp : ∀ s ∈ e.prog, s.spans.length ≤ 1000000) (l : List Int) (hll : l.length ≤ 1000000) :
    ∀ (k i : Nat) (set : List Bool), i ≤ l.length → l.length + 2000000 + 10 + e.prog.length < k + i → set.length = e.prog.length → ∃ b, regex_Expr_Match.l0 k (some e) l e set (i : Int) = some (.inl b)
  | 0, _, _, _, h, _ => by omega
  | k + 1, i, set, hi, hk, hs => by
    have hlen : e.prog.length ≤ 1000000 := hV.2
    have hpos := hV.pos
    rw [regex_Expr_Match.l0]
    obtain ⟨s1, e1, h1, _⟩ := add_ok e hV (i : Int) (l.length : Int) k set 0 hs (Int.le_refl _) (by omega) (by have := cf_le set; omega)
    rw [e1]
    simp only [Option.bind_some]
    rw [i64_id (n := (e.prog.length : Int) - 1) (by omega) (by omega)]
    obtain ⟨b, eb, _⟩ := lat_lt (l := s1) (j := (e.prog.length : Int) - 1) (by omega) (by omega)
    rw [eb]
    simp only [Option.bind_some]
    split
    · exact ⟨_, rfl⟩
    · split
      · exact ⟨_, rfl⟩
      · rename_i hne
        rw [made_ok _ hlen]
        simp only [Option.bind_some]
        obtain ⟨nx, e2, h2⟩ := match_l1 e hV hsp l i (by omega) hll s1 (by rw [h1, hs]) k 0 (List.replicate e.prog.length false) (Nat.zero_le _) (by rw [h1, hs]; omega) (by simp)
        rw [show ((0 : Nat) : Int) = 0 from rfl] at e2
        rw [e2]
        simp only [Option.bind_some]
        rw [i64_id (by omega) (by omega), show ((i : Int) + 1) = ((i + 1 : Nat) : Int) by omega]
        exact match_l0 e hV hsp l hll k (i + 1) nx (by omega) (by omega) h2

theorem match_ok {k : Nat} (e : T_regex_Expr) (hV : Val e.prog) (hsp : ∀ s ∈ e.prog, s.spans.length ≤ 1000000) (l : List Int) (hll : l.length ≤ 1000000) (hk : 5000000 ≤ k) : ∃ b, regex_Expr_Match.f k (some e) l = some b := by
  have hlen : e.prog.length ≤ 1000000 := hV.2
  have hpos := hV.pos
  rw [regex_Expr_Match.f]
  simp only [Option.isNone_some, Bool.false_eq_true, if_false, Option.bind_some]
  rw [if_neg (by omega), made_ok _ hlen]
  simp only [Option.bind_some]
  obtain ⟨b, eb⟩ := match_l0 e hV hsp l hll k 0 (List.replicate e.prog.length false) (Nat.zero_le _) (by omega) (by simp)
  rw [show ((0 : Nat) : Int) = 0 from rfl] at eb
  rw [eb]
  exact ⟨b, rfl⟩
end Go.Proofs.YtkkflfmonidepaaDoor
