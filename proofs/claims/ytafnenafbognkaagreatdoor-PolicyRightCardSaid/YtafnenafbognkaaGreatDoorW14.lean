/-
  Parts of the proof, merged: A2, A3.
-/
import Derived.KernelRfl
import Derived.Test.YtafnenafbognkaaGreatDoorW13
namespace Go.Proofs.YtafnenafbognkaaGreatDoor
open Sp
set_option maxRecDepth 100000
set_option maxHeartbeats 4000000
theorem wf32 {x : Int} (h : (Go.Lit.int .u32 x).wf = true) : 0 ≤ x ∧ x < 4294967296 := by
  simp [Go.Lit.wf, Go.IntKind.min, Go.IntKind.max, Go.IntKind.signed, Go.IntKind.bits] at h
  omega
theorem len63 {α : Type} {l : List α} (h : l.length ≤ Go.maxLen) : l.length ≤ 9223372036854775807 := h
theorem okP_of {p : T_api_Prefix} (h : ok_api_Prefix p) : okP p := wf32 h.1
theorem B_data (x : ByteArray) : B x.data.toList = x := by
  obtain ⟨d⟩ := x
  show (⟨d.toList.toArray⟩ : ByteArray) = ⟨d⟩
  rw [Array.toArray_toList]
theorem size_data (x : ByteArray) : x.data.toList.length = x.size := by
  show x.data.toList.length = x.data.size
  exact Array.length_toList
structure PatOf (s : ByteArray) (c : Int) (M : List Int → Bool) : Prop where
  code : c = 0 ∨ c = 4 ∨ c = 14
  none : ¬ c = 0 → ∀ l, M l = false
  run : ∀ k, 5000000 ≤ k → ∃ r q, regex_Parse.f k s = some r ∧ speculumref11_Parse.f k s = some q ∧ r.2 = c ∧ q.2.2 = c ∧
    ∀ l : List Int, l.length ≤ 900 → (∀ x ∈ l, 0 ≤ x ∧ x < 4294967296) → regex_Expr_Match.f k r.1 l = some (M l) ∧ (c = 0 → speculumref11_P_Match.f k q.1 q.2.1 l = some (M l))
theorem patOf (s : ByteArray) (h : s.size ≤ 200) : ∃ c M, PatOf s c M := by
  have hd := B_data s
  have hsz := size_data s
  obtain ⟨c, M, h1, h2, h3⟩ := pat_fix s.data.toList (by omega)
  rw [hd] at h3
  exact ⟨c, M, h1, h2, h3⟩
def okC (c : T_api_Cond) : Prop := ok_api_Cond c ∧ c.Text.size ≤ 200 ∧ c.Range.length ≤ 30
theorem cond_ok (c : T_api_Cond) (h : okC c) : ∃ b : Bool, ∀ k, 5000100 ≤ k → policy_RightCond.f k c = some b ∧ speculumref14_RightCond.f k c = some b := by
  obtain ⟨⟨_, _, _, _, _, hr, _⟩, ht, hrl⟩ := h
  obtain ⟨pc, M, hp⟩ := patOf c.Text ht
  have hrg : ∀ x ∈ c.Range, okP x.Prefix := fun x hx => okP_of (hr.2 x hx).1
  have hk : c.Kind = 0 ∨ c.Kind = 1 ∨ c.Kind = 2 ∨ c.Kind = 3 ∨ c.Kind = 4 ∨ c.Kind = 5 ∨ c.Kind = 6 ∨ (¬ c.Kind = 0 ∧ ¬ c.Kind = 1 ∧ ¬ c.Kind = 2 ∧ ¬ c.Kind = 3 ∧ ¬ c.Kind = 4 ∧ ¬ c.Kind = 5 ∧ ¬ c.Kind = 6) := by omega
  rcases hk with h | h | h | h | h | h | h | ⟨n0, n1, n2, n3, n4, n5, n6⟩
  · refine ⟨true, fun k _ => ?_⟩
    rw [policy_RightCond.f, speculumref14_RightCond.f, h]
    exact ⟨rfl, rfl⟩
  · refine ⟨c.Range.all rgR && decide ((c.Range.length : Int) ≤ 16), fun k hk => ⟨?_, ?_⟩⟩
    · rw [policy_RightCond.f, h, if_neg (by decide), Option.bind_some, if_neg (by decide), if_pos rfl]
      by_cases hl : (c.Range.length : Int) ≤ 16
      · rw [if_pos hl]
        have : slices_ContainsFunc_42_w140.f k c.Range = _ := containsF (l := c.Range) (len63 hr.1) (F := fun k i => slices_IndexFunc_80_w140.l0 k c.Range i) (P := fun k y => policy_RightCond_1.f k y) (p := fun y => !rgR y) (m := 0) (k := k) (fun k i => by rw [slices_IndexFunc_80_w140.l0])
          (fun y hy k _ => by rw [policy_RightCond_1.f, fright_ok k (hrg y hy)]; rfl) (by omega)
        rw [this, Option.bind_some, decide_eq_true hl, Bool.and_true, List.not_any_eq_all_not]
        simp
      · rw [if_neg hl, decide_eq_false hl, Bool.and_false]
    · rw [speculumref14_RightCond.f, if_pos h]
      have := allL (l := c.Range) (len63 hr.1) (F := fun k i => speculumref14_RightCond.l0 k c i) (P := fun k y => speculumref12_Right.f k y) (p := rgR) (m := 65) (c := false) (fun k i => by rw [speculumref14_RightCond.l0])
        (fun y hy k hk => rfright_ok hk (hrg y hy)) k 0 (Nat.zero_le _) (by omega)
      rw [show ((0 : Nat) : Int) = 0 from rfl, List.drop_zero] at this
      rw [this, Option.bind_some]
      cases c.Range.all rgR <;> rfl
  · refine ⟨pc == 0, fun k hk => ?_⟩
    obtain ⟨r, q, e1, e2, e3, e4, _⟩ := hp.run k (by omega)
    rw [policy_RightCond.f, speculumref14_RightCond.f, h, e1, e2]
    simp only [Option.bind_some, e3, e4]
    exact ⟨rfl, rfl⟩
  · refine ⟨decide ((c.Comms.length : Int) ≤ 32), fun k _ => ?_⟩
    rw [policy_RightCond.f, speculumref14_RightCond.f, h]
    exact ⟨rfl, rfl⟩
  · refine ⟨decide (c.Num ≥ 0) && decide (c.Num ≤ 64), fun k _ => ?_⟩
    rw [policy_RightCond.f, speculumref14_RightCond.f, h]
    by_cases g : c.Num ≥ 0
    · simp only [decide_eq_true g, if_pos g]; exact ⟨rfl, rfl⟩
    · simp only [decide_eq_false g, if_neg g]; exact ⟨rfl, rfl⟩
  · refine ⟨true, fun k _ => ?_⟩
    rw [policy_RightCond.f, speculumref14_RightCond.f, h]
    exact ⟨rfl, rfl⟩
  · refine ⟨decide (c.Num ≥ 0) && decide (c.Num ≤ 2), fun k _ => ?_⟩
    rw [policy_RightCond.f, speculumref14_RightCond.f, h]
    by_cases g : c.Num ≥ 0
    · simp only [decide_eq_true g, if_pos g]; exact ⟨rfl, rfl⟩
    · simp only [decide_eq_false g, if_neg g]; exact ⟨rfl, rfl⟩
  · refine ⟨false, fun k _ => ?_⟩
    rw [policy_RightCond.f, speculumref14_RightCond.f, if_neg n0, if_neg n1, if_neg n2, if_neg n3, if_neg n4, if_neg n6, if_neg n1, if_neg n2, if_neg n3, if_neg n4, if_neg n6, if_neg n0]
    rw [show (c.Kind == 5) = false by simpa using n5]
    exact ⟨rfl, rfl⟩
theorem shr24 {a : Int} (h0 : 0 ≤ a) (h1 : a < 4294967296) : shr .u32 a 24 = i64 ((i64 a).tdiv 16777216) := by
  obtain ⟨n, rfl⟩ := Int.eq_ofNat_of_zero_le h0
  have e2 : ((n : Int).tdiv 16777216) = ((n / 16777216 : Nat) : Int) := rfl
  rw [i64_id (n := (n : Int)) (by omega) (by omega), e2, i64_id (by omega) (by omega)]
  show (n : Int).fdiv (2 ^ min (24 : Int).toNat 32) = _
  rw [show (2 : Int) ^ min (24 : Int).toNat 32 = ((16777216 : Nat) : Int) by decide, Int.fdiv_eq_ediv_of_nonneg _ (by omega), ← Int.natCast_ediv]
theorem next_ok (k : Nat) {a : Int} (h0 : 0 ≤ a) (h1 : a < 4294967296) : ∃ b, attrs_Next.f k a = some b ∧ speculumref04_Next.f k a = some b := by
  rw [attrs_Next.f, speculumref04_Next.f, shr24 h0 h1]
  split
  · exact ⟨_, rfl, rfl⟩
  · split
    · exact ⟨_, rfl, rfl⟩
    · exact ⟨_, rfl, rfl⟩
theorem next_fix (k m : Nat) (a : Int) : attrs_Next.f k a = attrs_Next.f m a := by rw [attrs_Next.f, attrs_Next.f]
theorem deed_ok (d : T_api_Deed) (h : ok_api_Deed d) : ∃ b : Bool, ∀ k, policy_RightDeed.f k d = some b ∧ speculumref14_RightDeed.f k d = some b := by
  obtain ⟨_, _, ha⟩ := h
  obtain ⟨a0, a1⟩ := wf32 ha
  have key : ∀ k, policy_RightDeed.f k d = policy_RightDeed.f 0 d ∧ speculumref14_RightDeed.f k d = policy_RightDeed.f 0 d ∧ ∃ b, policy_RightDeed.f 0 d = some b := by
    intro k
    obtain ⟨b, e1, e2⟩ := next_ok k a0 a1
    rw [policy_RightDeed.f, policy_RightDeed.f, speculumref14_RightDeed.f, next_fix 0 k, e1, e2]
    by_cases h1 : d.Kind = 1
    · simp only [if_pos h1]; split <;> exact ⟨by first | rfl | trivial, by first | rfl | trivial, _, rfl⟩
    · simp only [if_neg h1]
      by_cases h2 : d.Kind = 2
      · simp only [if_pos h2]; split <;> exact ⟨by first | rfl | trivial, by first | rfl | trivial, _, rfl⟩
      · simp only [if_neg h2]
        by_cases h3 : d.Kind = 3
        · simp only [if_pos h3]; split <;> exact ⟨by first | rfl | trivial, by first | rfl | trivial, _, rfl⟩
        · simp only [if_neg h3]
          by_cases h4 : d.Kind = 4
          · simp only [if_pos h4, if_neg (show ¬ d.Kind = 6 by omega)]; exact ⟨by first | rfl | trivial, by first | rfl | trivial, _, rfl⟩
          · simp only [if_neg h4]
            by_cases h5 : d.Kind = 5
            · simp only [if_pos h5, if_neg (show ¬ d.Kind = 6 by omega)]; exact ⟨by first | rfl | trivial, by first | rfl | trivial, _, rfl⟩
            · simp only [if_neg h5]
              by_cases h7 : d.Kind = 7
              · simp only [if_pos h7, if_neg (show ¬ d.Kind = 6 by omega)]; exact ⟨by first | rfl | trivial, by simp [h7], _, rfl⟩
              · simp only [if_neg h7]
                by_cases h6 : d.Kind = 6
                · simp only [if_pos h6]; exact ⟨by first | rfl | trivial, by first | rfl | trivial, _, rfl⟩
                · simp only [if_neg h6]; exact ⟨by first | rfl | trivial, by simp [h7], _, rfl⟩
  obtain ⟨_, _, b, hb⟩ := key 0
  exact ⟨b, fun k => ⟨(key k).1.trans hb, (key k).2.1.trans hb⟩⟩
theorem choose1 {α : Type} {l : List α} {R : α → Bool → Prop} (h : ∀ x ∈ l, ∃ b, R x b) : ∃ p : α → Bool, ∀ x ∈ l, R x (p x) := by
  classical
  exact ⟨fun x => if hx : x ∈ l then (h x hx).choose else false, fun x hx => by
    simp only [dif_pos hx]
    exact (h x hx).choose_spec⟩
def okR (x : T_api_Rule) : Prop := ok_api_Rule x ∧ ∀ c ∈ x.Conds, okC c
theorem rule_ok (x : T_api_Rule) (h : okR x) : ∃ b : Bool, (∀ k, 5000200 ≤ k → policy_rule.f k x = some b) ∧
    ∀ k, 5000200 ≤ k → ∀ (β : Type) (A : Option (Sum Bool β)), (if (x.Conds.length : Int) > 16 then some (.inl false) else (if (x.Deeds.length : Int) > 16 then some (.inl false) else (if x.Verdict < 1 then some (.inl false) else (if x.Verdict > 3 then some (.inl false) else (((speculumref14_Right.l1 k x 0) : Option (Sum Bool Unit)).bind fun o => match o with | .inl r => some (.inl r) | .inr _ => (((speculumref14_Right.l2 k x 0) : Option (Sum Bool Unit)).bind fun o => match o with | .inl r => some (.inl r) | .inr _ => A)))))) = if b = true then A else some (.inl false) := by
  obtain ⟨⟨hc, hd, hv⟩, hcs⟩ := h
  obtain ⟨pc, hpc⟩ := choose1 (l := x.Conds) (R := fun c b => ∀ k, 5000100 ≤ k → policy_RightCond.f k c = some b ∧ speculumref14_RightCond.f k c = some b) fun c hx => cond_ok c (hcs c hx)
  obtain ⟨pd, hpd⟩ := choose1 (l := x.Deeds) (R := fun c b => ∀ k, policy_RightDeed.f k c = some b ∧ speculumref14_RightDeed.f k c = some b) fun c hx => deed_ok c (hd.2 c hx)
  refine ⟨!decide ((x.Conds.length : Int) > 16) && (!decide ((x.Deeds.length : Int) > 16) && (x.Conds.all pc && (x.Deeds.all pd && (decide (x.Verdict = 1) || (decide (x.Verdict = 2) || (x.Verdict == 3)))))), fun k hk => ?_, fun k hk β A => ?_⟩
  · rw [policy_rule.f]
    by_cases h1 : (x.Conds.length : Int) > 16
    · rw [if_pos h1, decide_eq_true h1]; rfl
    · rw [if_neg h1, decide_eq_false h1]
      by_cases h2 : (x.Deeds.length : Int) > 16
      · rw [if_pos h2, decide_eq_true h2]; rfl
      · rw [if_neg h2, decide_eq_false h2]
        have e1 : slices_ContainsFunc_77_w175.f k x.Conds = _ := containsF (l := x.Conds) (len63 hc.1) (F := fun k i => slices_IndexFunc_109_w175.l0 k x.Conds i) (P := fun k y => policy_rule_1.f k y) (p := fun y => !pc y) (m := 5000100) (k := k) (fun k i => by rw [slices_IndexFunc_109_w175.l0])
          (fun y hy k hk => by rw [policy_rule_1.f, (hpc y hy k hk).1]; rfl) (by omega)
        have e2 : slices_ContainsFunc_78_w276.f k x.Deeds = _ := containsF (l := x.Deeds) (len63 hd.1) (F := fun k i => slices_IndexFunc_110_w276.l0 k x.Deeds i) (P := fun k y => policy_rule_2.f k y) (p := fun y => !pd y) (m := 0) (k := k) (fun k i => by rw [slices_IndexFunc_110_w276.l0])
          (fun y hy k hk => by rw [policy_rule_2.f, (hpd y hy k).1]; rfl) (by omega)
        rw [e1, Option.bind_some]
        have a1 : (x.Conds.any fun y => !pc y) = !x.Conds.all pc := by rw [List.not_all_eq_any_not]
        have a2 : (x.Deeds.any fun y => !pd y) = !x.Deeds.all pd := by rw [List.not_all_eq_any_not]
        rw [a1, e2, a2]
        cases x.Conds.all pc with
        | false => rfl
        | true =>
          rw [if_neg (by decide), Option.bind_some]
          cases x.Deeds.all pd with
          | false => rfl
          | true =>
            rw [if_neg (by decide)]
            by_cases v1 : x.Verdict = 1
            · rw [if_pos v1, decide_eq_true v1]; rfl
            · rw [if_neg v1, decide_eq_false v1]
              by_cases v2 : x.Verdict = 2
              · rw [if_pos v2, decide_eq_true v2]; rfl
              · rw [if_neg v2, decide_eq_false v2]; rfl
  · by_cases h1 : (x.Conds.length : Int) > 16
    · rw [if_pos h1, decide_eq_true h1]; rfl
    · rw [if_neg h1, decide_eq_false h1]
      by_cases h2 : (x.Deeds.length : Int) > 16
      · rw [if_pos h2, decide_eq_true h2]; rfl
      · rw [if_neg h2, decide_eq_false h2]
        have e1 := allL (l := x.Conds) (len63 hc.1) (F := fun k i => speculumref14_Right.l1 k x i) (P := fun k y => speculumref14_RightCond.f k y) (p := pc) (m := 5000100) (c := false) (fun k i => by rw [speculumref14_Right.l1])
          (fun y hy k hk => (hpc y hy k hk).2) k 0 (Nat.zero_le _) (by omega)
        have e2 := allL (l := x.Deeds) (len63 hd.1) (F := fun k i => speculumref14_Right.l2 k x i) (P := fun k y => speculumref14_RightDeed.f k y) (p := pd) (m := 0) (c := false) (fun k i => by rw [speculumref14_Right.l2])
          (fun y hy k hk => (hpd y hy k).2) k 0 (Nat.zero_le _) (by omega)
        rw [show ((0 : Nat) : Int) = 0 from rfl, List.drop_zero] at e1 e2
        rw [e1, e2]
        by_cases v0 : x.Verdict < 1
        · rw [if_pos v0, if_neg]
          simp; omega
        · rw [if_neg v0]
          by_cases v3 : x.Verdict > 3
          · rw [if_pos v3, if_neg]
            simp; omega
          · rw [if_neg v3]
            have hvv : (decide (x.Verdict = 1) || (decide (x.Verdict = 2) || (x.Verdict == 3))) = true := by
              have : x.Verdict = 1 ∨ x.Verdict = 2 ∨ x.Verdict = 3 := by omega
              rcases this with h | h | h <;> simp [h]
            rw [hvv, Bool.and_true]
            cases x.Conds.all pc with
            | false => rfl
            | true =>
              cases x.Deeds.all pd with
              | false => rfl
              | true => rfl
theorem right_ok (l : List T_api_Rule) (hl : l.length ≤ 20) (h : ∀ x ∈ l, okR x) : ∃ b : Bool, ∀ k, 5000300 ≤ k → policy_Right.f k l = some b ∧ speculumref14_Right.f k l = some b := by
  obtain ⟨p, hp⟩ := choose1 (l := l) fun x hx => rule_ok x (h x hx)
  refine ⟨!decide ((l.length : Int) > 16) && l.all p, fun k hk => ⟨?_, ?_⟩⟩
  · rw [policy_Right.f]
    by_cases h1 : (l.length : Int) > 16
    · rw [if_pos h1, decide_eq_true h1]; rfl
    · rw [if_neg h1, decide_eq_false h1]
      have e1 : slices_ContainsFunc_37_w138.f k l = _ := containsF (l := l) (by omega) (F := fun k i => slices_IndexFunc_74_w138.l0 k l i) (P := fun k y => policy_Right_1.f k y) (p := fun y => !p y) (m := 5000200) (k := k) (fun k i => by rw [slices_IndexFunc_74_w138.l0])
        (fun y hy k hk => by rw [policy_Right_1.f, (hp y hy).1 k hk]; rfl) (by omega)
      rw [e1, Option.bind_some, List.not_any_eq_all_not]
      simp
  · rw [speculumref14_Right.f]
    by_cases h1 : (l.length : Int) > 16
    · rw [if_pos h1, decide_eq_true h1]; rfl
    · rw [if_neg h1, decide_eq_false h1]
      have loop : ∀ (k i : Nat), i ≤ l.length → 5000200 + (l.length - i) < k → speculumref14_Right.l0 k l (i : Int) = some (if (l.drop i).all p = true then .inr () else .inl false) := by
        intro k
        induction k with
        | zero => intro i _ h; omega
        | succ k ih =>
          intro i h1 h2
          rw [speculumref14_Right.l0]
          by_cases hi : i < l.length
          · rw [if_pos (by omega), lat_nat, List.getElem?_eq_getElem hi, Option.bind_some]
            refine ((hp l[i] (List.getElem_mem hi)).2 k (by omega) Unit (speculumref14_Right.l0 k l (i64 ((i : Int) + 1)))).trans ?_
            rw [i64_up hi (by omega), List.drop_eq_getElem_cons hi, List.all_cons]
            cases p l[i] with
            | true => rw [if_pos rfl, ih (i + 1) (by omega) (by omega), Bool.true_and]
            | false => rfl
          · rw [if_neg (by omega), List.drop_eq_nil_of_le (by omega)]; rfl
      have e := loop k 0 (Nat.zero_le _) (by omega)
      rw [show ((0 : Nat) : Int) = 0 from rfl, List.drop_zero] at e
      rw [e, Option.bind_some]
      cases l.all p <;> rfl
end Go.Proofs.YtafnenafbognkaaGreatDoor
namespace Go.Proofs.YtafnenafbognkaaGreatDoor
open Sp
set_option maxRecDepth 100000
set_option maxHeartbeats 4000000
theorem mn_le (a b : Int) : mn a b ≤ b := by unfold mn; split <;> omega
theorem mn_nn {a b : Int} (ha : 0 ≤ a) (hb : 0 ≤ b) : 0 ≤ mn a b := by unfold mn; split <;> omega
def fewC (c : T_api_Cond) : Bool := decide ((c.Range.length : Int) ≤ 30) && (decide ((c.Text.size : Int) ≤ 200) && decide ((c.Comms.length : Int) ≤ 60))
theorem fewC_ok (k : Nat) (c : T_api_Cond) : speculumlaw14_FewCond.f k c = some (fewC c) := by
  rw [speculumlaw14_FewCond.f]
  unfold fewC
  split
  · rename_i h
    rw [decide_eq_true h]
    split
    · rename_i h; rw [decide_eq_true h]; rfl
    · rename_i h; rw [decide_eq_false h]; rfl
  · rename_i h; rw [decide_eq_false h]; rfl
theorem few_l1 {l : List T_api_Rule} {i : Nat} {x : T_api_Rule} (hx : l[i]? = some x) (hc : x.Conds.length ≤ 100) (k : Nat) (hk : 200 ≤ k) : speculumlaw14_Few.l1 k l (i : Int) 0 = some (if x.Conds.all fewC = true then .inr () else .inl false) := by
  have := allL (l := x.Conds) (by omega) (F := fun k j => speculumlaw14_Few.l1 k l (i : Int) j) (P := fun k y => speculumlaw14_FewCond.f k y) (p := fewC) (m := 0) (c := false) (fun k j => by
      show speculumlaw14_Few.l1 (k + 1) l (i : Int) j = _
      rw [speculumlaw14_Few.l1, lat_nat, hx]
      simp only [Option.bind_some])
    (fun y hy k _ => fewC_ok k y) k 0 (Nat.zero_le _) (by omega)
  rw [show ((0 : Nat) : Int) = 0 from rfl, List.drop_zero] at this
  exact this
theorem few_l0 (l : List T_api_Rule) (hl : l.length ≤ 20) : ∀ (i : Nat), i ≤ l.length → ∀ (s : Int), 0 ≤ s → s ≤ 200 * i → ∃ o, (∀ k, 300 + (l.length - i) ≤ k → speculumlaw14_Few.l0 k l s (i : Int) = some o) ∧ (o = .inl false ∨ (o = .inr () ∧ ∀ x ∈ l.drop i, x.Conds.length ≤ 30 ∧ x.Conds.all fewC = true)) := by
  intro i hi
  induction h : l.length - i generalizing i with
  | zero =>
    intro s _ _
    refine ⟨.inr (), fun k hk => ?_, .inr ⟨rfl, fun x hx => ?_⟩⟩
    · cases k with
      | zero => omega
      | succ k => rw [speculumlaw14_Few.l0, if_neg (by omega)]
    · rw [List.drop_eq_nil_of_le (by omega)] at hx; cases hx
  | succ n ih =>
    intro s h0 h1
    have hlt : i < l.length := by omega
    have hx : l[i]? = some l[i] := List.getElem?_eq_getElem hlt
    have c1 := mn_le (l[i].Conds.length : Int) 100
    have c2 := mn_le (l[i].Deeds.length : Int) 100
    have c3 : 0 ≤ mn (l[i].Conds.length : Int) 100 := mn_nn (by omega) (by omega)
    have c4 : 0 ≤ mn (l[i].Deeds.length : Int) 100 := mn_nn (by omega) (by omega)
    have hs : i64 (s + (i64 ((mn (l[i].Conds.length : Int) 100) + (mn (l[i].Deeds.length : Int) 100)))) = s + (mn (l[i].Conds.length : Int) 100 + mn (l[i].Deeds.length : Int) 100) := by
      rw [i64_id (n := mn (l[i].Conds.length : Int) 100 + mn (l[i].Deeds.length : Int) 100) (by omega) (by omega), i64_id (by omega) (by omega)]
    have unf : ∀ k, speculumlaw14_Few.l0 (k + 1) l s (i : Int) = (if (l[i].Conds.length : Int) > 30 then (some (.inl false)) else (if s + (mn (l[i].Conds.length : Int) 100 + mn (l[i].Deeds.length : Int) 100) > 80 then (some (.inl false)) else (((speculumlaw14_Few.l1 k l (i : Int) 0) : Option (Sum Bool Unit)).bind fun o => match o with | .inl r => some (.inl r) | .inr _ => (speculumlaw14_Few.l0 k l (s + (mn (l[i].Conds.length : Int) 100 + mn (l[i].Deeds.length : Int) 100)) ((i + 1 : Nat) : Int))))) := by
      intro k
      rw [speculumlaw14_Few.l0, if_pos (by omega), lat_nat, hx]
      simp only [Option.bind_some]
      rw [hs, i64_up hlt (by omega)]
      rfl
    by_cases g1 : (l[i].Conds.length : Int) > 30
    · refine ⟨.inl false, fun k hk => ?_, .inl rfl⟩
      cases k with
      | zero => omega
      | succ k => rw [unf, if_pos g1]
    · by_cases g2 : s + (mn (l[i].Conds.length : Int) 100 + mn (l[i].Deeds.length : Int) 100) > 80
      · refine ⟨.inl false, fun k hk => ?_, .inl rfl⟩
        cases k with
        | zero => omega
        | succ k => rw [unf, if_neg g1, if_pos g2]
      · obtain ⟨o, e, ho⟩ := ih (i + 1) (by omega) (by omega) _ (show 0 ≤ s + (mn (l[i].Conds.length : Int) 100 + mn (l[i].Deeds.length : Int) 100) by omega) (by omega)
        by_cases g3 : l[i].Conds.all fewC = true
        · refine ⟨o, fun k hk => ?_, ho.imp id fun ⟨a, b⟩ => ⟨a, fun x hx' => ?_⟩⟩
          · cases k with
            | zero => omega
            | succ k =>
              rw [unf, if_neg g1, if_neg g2, few_l1 hx (by omega) k (by omega), if_pos g3, Option.bind_some]
              exact e k (by omega)
          · rw [List.drop_eq_getElem_cons hlt] at hx'
            rcases List.mem_cons.1 hx' with rfl | hx'
            · exact ⟨by omega, g3⟩
            · exact b x hx'
        · refine ⟨.inl false, fun k hk => ?_, .inl rfl⟩
          cases k with
          | zero => omega
          | succ k =>
            rw [unf, if_neg g1, if_neg g2, few_l1 hx (by omega) k (by omega), if_neg g3, Option.bind_some]
theorem few_ok (l : List T_api_Rule) : ∃ b : Bool, (∀ k, 400 ≤ k → speculumlaw14_Few.f k l = some b) ∧ (b = true → l.length ≤ 20 ∧ ∀ x ∈ l, x.Conds.length ≤ 30 ∧ x.Conds.all fewC = true) := by
  by_cases h : (l.length : Int) > 20
  · exact ⟨false, fun k _ => by rw [speculumlaw14_Few.f, if_pos h], fun h => by cases h⟩
  · obtain ⟨o, e, ho⟩ := few_l0 l (by omega) 0 (Nat.zero_le _) 0 (by omega) (by omega)
    rw [List.drop_zero] at ho
    have e' : ∀ k, 400 ≤ k → speculumlaw14_Few.f k l = ((some o).bind fun o => match o with | .inl r => some r | .inr _ => some true) := fun k hk => by
      rw [speculumlaw14_Few.f, if_neg h, ← e k (by omega)]
      rfl
    rcases ho with rfl | ⟨rfl, ho⟩
    · exact ⟨false, e', fun h => by cases h⟩
    · exact ⟨true, e', fun _ => ⟨by omega, ho⟩⟩
theorem okC_of {c : T_api_Cond} (h : ok_api_Cond c) (hf : fewC c = true) : okC c := by
  unfold fewC at hf
  simp only [Bool.and_eq_true, decide_eq_true_eq] at hf
  exact ⟨h, by omega, by omega⟩
theorem okR_of {l : List T_api_Rule} (h : l.length ≤ Go.maxLen ∧ ∀ x ∈ l, ok_api_Rule x) (hf : ∀ x ∈ l, x.Conds.length ≤ 30 ∧ x.Conds.all fewC = true) : ∀ x ∈ l, okR x := fun x hx =>
  ⟨h.2 x hx, fun c hc => okC_of ((h.2 x hx).1.2 c hc) (List.all_eq_true.1 (hf x hx).2 c hc)⟩
theorem awake14 : speculumlaw14_awake.f 6000000 = some true := by kernel_rfl
theorem right_law (x0 : List T_api_Rule) (x1 : T_api_Cond) (x2 : T_api_Deed) (o0 : x0.length ≤ Go.maxLen ∧ ∀ x ∈ x0, ok_api_Rule x) (o1 : ok_api_Cond x1) (o2 : ok_api_Deed x2) : ∃ k, speculumlaw14_PolicyRight.f k x0 x1 x2 = some true := by
  refine ⟨6000000, ?_⟩
  rw [speculumlaw14_PolicyRight.f]
  obtain ⟨b, e, hb⟩ := few_ok x0
  rw [e _ (by omega), Option.bind_some, fewC_ok]
  simp only [awake14, Option.bind_some]
  by_cases hf : b = true
  · rw [if_pos hf]
    obtain ⟨h1, h2⟩ := hb hf
    by_cases hc : fewC x1 = true
    · rw [if_pos hc]
      obtain ⟨r, hr⟩ := right_ok x0 h1 (okR_of o0 h2)
      obtain ⟨c, hc'⟩ := cond_ok x1 (okC_of o1 hc)
      obtain ⟨d, hd⟩ := deed_ok x2 o2
      rw [(hr _ (by omega)).1, (hr _ (by omega)).2, (hc' _ (by omega)).1, (hc' _ (by omega)).2, (hd _).1, (hd _).2]
      simp
    · rw [if_neg hc]
  · rw [if_neg hf]
end Go.Proofs.YtafnenafbognkaaGreatDoor
