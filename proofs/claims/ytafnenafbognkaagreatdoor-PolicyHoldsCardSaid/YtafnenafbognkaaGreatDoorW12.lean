/-
  Parts of the proof, merged: RX1.
-/
import Derived.Test.YtafnenafbognkaaGreatDoorW11
namespace Go.Proofs.YtafnenafbognkaaGreatDoor
open Sp
set_option maxRecDepth 100000
set_option maxHeartbeats 4000000
theorem i64_id {n : Int} (h0 : -9223372036854775808 ≤ n) (h1 : n < 9223372036854775808) : i64 n = n := by
  unfold i64 Go.IntKind.wrap
  simp only [Go.IntKind.signed, Go.IntKind.bits]
  simp
  omega
theorem lat_nat {α : Type} (l : List α) (n : Nat) : lat l (n : Int) = l[n]? := by simp [lat]
theorem lat_lt {α : Type} {l : List α} {j : Int} (h0 : 0 ≤ j) (h1 : j < l.length) : ∃ x, lat l j = some x ∧ l[j.toNat]? = some x := by
  have h : j.toNat < l.length := by omega
  exact ⟨l[j.toNat], by simp [lat, h0, h], by simp [h]⟩
theorem app_small {α : Type} {b : Nat} {l m : List α} (h : (l.length + m.length) * b ≤ 140737488355328) (hb : 0 < b) : app b l m = some (l ++ m) := by
  unfold app
  rw [if_pos]
  refine ⟨h, ?_⟩
  have : l.length + m.length ≤ (l.length + m.length) * b := Nat.le_mul_of_pos_right _ hb
  unfold Go.maxLen
  omega
def dsp : List T_sg → List T_sg
  | [] => []
  | x :: l => if x.c = 32 then dsp l else x :: l
theorem dsp_len : ∀ l, (dsp l).length ≤ l.length
  | [] => Nat.le_refl _
  | x :: l => by unfold dsp; split; exact Nat.le_succ_of_le (dsp_len l); exact Nat.le_refl _
theorem dsp_head : ∀ {l x r}, dsp l = x :: r → ¬ x.c = 32
  | [], _, _, h => by cases h
  | y :: l, x, r, h => by
    unfold dsp at h; split at h
    · exact dsp_head h
    · obtain ⟨rfl, _⟩ := List.cons.inj h; assumption
def hd : List T_sg → T_sg
  | [] => ⟨0, 0, false⟩
  | x :: _ => x
theorem dsp_dsp : ∀ l, dsp (dsp l) = dsp l
  | [] => rfl
  | x :: l => by
    by_cases h : x.c = 32
    · simp [dsp, h, dsp_dsp l]
    · simp [dsp, h]
theorem peek_l0 : ∀ (k : Nat) (l : List T_sg), l.length < k → rr_peek.l0 k l = some (dsp l)
  | 0, _, h => by omega
  | k + 1, [], _ => by rw [rr_peek.l0]; simp [dsp]
  | k + 1, x :: l, h => by
    rw [rr_peek.l0]
    rw [if_pos (by simp)]
    have h1 : lat (x :: l) 0 = some x := rfl
    rw [h1]
    simp only [obs]
    have h2 : cutL (x :: l) 1 = some l := by simp [cutL]; omega
    unfold dsp
    split
    · rw [h2]
      simp only [obs]
      exact peek_l0 k l (by simp at h; omega)
    · rfl
theorem peek_eq {k : Nat} {l : List T_sg} {b : Bool} (h : l.length < k) : rr_peek.f k ⟨l, b⟩ = some (hd (dsp l), ⟨dsp l, b⟩) := by
  rw [rr_peek.f, peek_l0 k l h]
  simp only [obs]
  cases hd' : dsp l with
  | nil => simp [hd]
  | cons x r =>
    rw [if_neg (by simp; omega)]
    rfl
theorem next_eq {k : Nat} {l : List T_sg} {b : Bool} (h : l.length < k) : rr_next.f k ⟨l, b⟩ = some (hd (dsp l), ⟨(dsp l).tail, b⟩) := by
  rw [rr_next.f, peek_eq h]
  simp only [obs]
  cases hd' : dsp l with
  | nil => simp [hd]
  | cons x r =>
    rw [if_pos (by simp)]
    have h2 : cutL (x :: r) 1 = some r := by simp [cutL]; omega
    rw [h2]
    rfl
theorem tail_len (l : List T_sg) : (dsp l).tail.length ≤ l.length := by
  have := dsp_len l
  simp; omega
mutual
def wt : T_pc → Nat
  | ⟨_, ps, ss, _⟩ => 1 + wts ps + ss.length
def wts : List T_pc → Nat
  | [] => 0
  | p :: ps => wt p + wts ps
end
theorem wts_app : ∀ a b, wts (a ++ b) = wts a + wts b
  | [], b => by simp [wts]
  | x :: a, b => by simp only [List.cons_append, wts, wts_app a b]; omega
theorem wts_len : ∀ l, l.length ≤ wts l
  | [] => Nat.le_refl _
  | ⟨_, _, _, _⟩ :: l => by simp only [wts, wt, List.length_cons]; have := wts_len l; omega
def num32 (n : Int) : Prop := 0 ≤ n ∧ n < 4294967296
def spanOk (s : T_regex_span) : Prop := num32 s.from_ ∧ num32 s.to_ ∧ s.from_ ≤ s.to_
inductive WF : Nat → T_pc → Prop
  | num {n : Int} : num32 n → WF 0 ⟨2, [], [⟨n, n⟩], false⟩
  | any : WF 0 ⟨3, [], [], false⟩
  | start : WF 0 ⟨5, [], [], false⟩
  | stop : WF 0 ⟨6, [], [], false⟩
  | set {ss : List T_regex_span} {b : Bool} : ss ≠ [] → (∀ s ∈ ss, spanOk s) → WF 0 ⟨4, [], ss, b⟩
  | par {p : T_pc} : WF 2 p → WF 0 p
  | rep {k : Int} {p : T_pc} : (k = 7 ∨ k = 8 ∨ k = 9) → WF 0 p → WF 0 ⟨k, [p], [], false⟩
  | row {ps : List T_pc} : (∀ x ∈ ps, WF 0 x) → WF 1 ⟨0, ps, [], false⟩
  | choice {ps : List T_pc} : ps ≠ [] → (∀ x ∈ ps, WF 1 x) → WF 2 ⟨1, ps, [], false⟩
def signOk (x : T_sg) : Prop := (x.digits = true → num32 x.n ∧ x.c = 0) ∧ (x.digits = false → ¬ x.c = 0)
def sgs (l : List T_sg) : Prop := ∀ x ∈ l, signOk x
theorem sgs_dsp : ∀ {l}, sgs l → sgs (dsp l)
  | [], h => h
  | x :: l, h => by
    unfold dsp; split
    · exact sgs_dsp fun y hy => h y (List.mem_cons_of_mem _ hy)
    · exact h
theorem sgs_tail {l} (h : sgs l) : sgs (dsp l).tail := fun x hx => sgs_dsp h x (List.mem_of_mem_tail hx)
theorem repeats_l0 : ∀ (k : Nat) (p : T_pc) (l : List T_sg) (b : Bool), l.length + 1 < k → sgs l →
    ∃ q r, rr_repeats.l0 k p.kind p.parts p.spans p.not l b = some (.inl (q, r)) ∧ r.rest.length ≤ l.length ∧ r.bad = b ∧ sgs r.rest ∧ wt q + r.rest.length ≤ wt p + l.length ∧ (WF 0 p → WF 0 q)
  | 0, _, _, _, h, _ => by omega
  | k + 1, p, l, b, h, hs => by
    rw [rr_repeats.l0, peek_eq (by omega)]
    simp only [obs]
    have hn : rr_next.f k ⟨dsp l, b⟩ = some (hd (dsp (dsp l)), ⟨(dsp (dsp l)).tail, b⟩) := next_eq (by have := dsp_len l; omega)
    rw [dsp_dsp] at hn
    have hp : (⟨p.kind, p.parts, p.spans, p.not⟩ : T_pc) = p := by cases p; rfl
    have step : ∀ c : Int, (c = 7 ∨ c = 8 ∨ c = 9) → (hd (dsp l)).c ≠ 0 → ∃ q r, rr_repeats.l0 k c [p] [] false (dsp l).tail b = some (.inl (q, r)) ∧ r.rest.length ≤ l.length ∧ r.bad = b ∧ sgs r.rest ∧ wt q + r.rest.length ≤ wt p + l.length ∧ (WF 0 p → WF 0 q) := by
      intro c hc h0
      have hne : (dsp l).tail.length + 1 ≤ l.length := by
        cases hd' : dsp l with
        | nil => rw [hd'] at h0; exact absurd rfl h0
        | cons x r => have := dsp_len l; rw [hd'] at this; simpa using this
      obtain ⟨q, r, e, h1, h2, h3, h4, h5⟩ := repeats_l0 k ⟨c, [p], [], false⟩ (dsp l).tail b (by omega) (sgs_tail hs)
      refine ⟨q, r, e, by omega, h2, h3, ?_, fun hw => h5 (.rep hc hw)⟩
      simp only [wt, wts, List.length_nil] at h4
      omega
    rw [hp]
    split
    · rename_i hc
      rw [hn]; simp only [obs]
      exact step 7 (.inl rfl) (by rw [hc]; decide)
    · split
      · rename_i hc
        rw [hn]; simp only [obs]
        exact step 8 (.inr (.inl rfl)) (by rw [hc]; decide)
      · split
        · rename_i hc
          rw [hn]; simp only [obs]
          exact step 9 (.inr (.inr rfl)) (by rw [hc]; decide)
        · exact ⟨p, ⟨dsp l, b⟩, rfl, dsp_len l, rfl, sgs_dsp hs, by have := dsp_len l; show wt p + (dsp l).length ≤ _; omega, id⟩
theorem repeats_ok {k : Nat} {p : T_pc} {l : List T_sg} {b : Bool} (h : l.length + 1 < k) (hs : sgs l) :
    ∃ q r, rr_repeats.f k ⟨l, b⟩ p = some (q, r) ∧ r.rest.length ≤ l.length ∧ r.bad = b ∧ sgs r.rest ∧ wt q + r.rest.length ≤ wt p + l.length ∧ (WF 0 p → WF 0 q) := by
  obtain ⟨q, r, e, h'⟩ := repeats_l0 k p l b h hs
  exact ⟨q, r, by rw [rr_repeats.f, e]; rfl, h'⟩
end Go.Proofs.YtafnenafbognkaaGreatDoor
namespace Go.Proofs.YtafnenafbognkaaGreatDoor
open Sp
set_option maxRecDepth 100000
set_option maxHeartbeats 4000000
theorem tail_lt {l : List T_sg} (h : dsp l ≠ []) : (dsp l).tail.length + 1 ≤ l.length := by
  cases hd' : dsp l with
  | nil => exact absurd hd' h
  | cons x r => have := dsp_len l; rw [hd'] at this; simpa using this
theorem hd_ne {l : List T_sg} (h : (hd l).c ≠ 0 ∨ (hd l).digits = true) : l ≠ [] := by
  rintro rfl
  rcases h with h | h
  · exact h rfl
  · exact absurd h (by decide)
theorem hd_ok {l : List T_sg} (hs : sgs l) (h : l ≠ []) : signOk (hd l) := by
  cases l with
  | nil => exact absurd rfl h
  | cons x l => exact hs x (List.mem_cons_self ..)
theorem set_l1 : ∀ (k : Nat) (l : List T_sg) (b : Bool), l.length + 1 < k → sgs l → ∃ r, rr_set.l1 k l b = some (r, b) ∧ r.length ≤ l.length ∧ sgs r
  | 0, _, _, h, _ => by omega
  | k + 1, l, b, h, hs => by
    rw [rr_set.l1, peek_eq (by omega)]
    simp only [obs]
    split
    · rename_i hc
      rw [next_eq (by have := dsp_len l; omega), dsp_dsp]
      simp only [obs]
      have hne := tail_lt (hd_ne (.inl (by rw [hc]; decide)))
      obtain ⟨r, e, h1, h2⟩ := set_l1 k (dsp l).tail b (by omega) (sgs_tail hs)
      exact ⟨r, e, by omega, h2⟩
    · exact ⟨dsp l, rfl, dsp_len l, sgs_dsp hs⟩
def Res (l : List T_sg) (b : Bool) (kind c : Nat) (o : Option (T_pc × T_regex_reader)) : Prop :=
  ∃ p r, o = some (p, r) ∧ r.rest.length ≤ l.length ∧ sgs r.rest ∧ wt p + 4 * r.rest.length ≤ 4 * l.length + c ∧ (r.bad = false → b = false ∧ WF kind p)
theorem set_l0 : ∀ (k : Nat) (nt : Bool) (l : List T_sg) (b : Bool) (ss : List T_regex_span), l.length + 2 < k → sgs l → ss.length + l.length ≤ 1000000 →
    ∃ p r, rr_set.l0 k nt l b ss = some (.inl (p, r)) ∧ r.rest.length ≤ l.length ∧ sgs r.rest ∧ wt p + r.rest.length ≤ 1 + ss.length + l.length ∧ (r.bad = false → b = false ∧ ((∀ s ∈ ss, spanOk s) → WF 0 p))
  | 0, _, _, _, _, h, _, _ => by omega
  | k + 1, nt, l, b, ss, h, hs, hb => by
    rw [rr_set.l0]
    obtain ⟨l1, e1, h1, hs1⟩ := set_l1 k l b (by omega) hs
    rw [e1]
    simp only [obs]
    rw [next_eq (by omega)]
    simp only [obs]
    have hx := tail_len l1
    have hst := sgs_tail hs1
    have stop : ∀ (r : List T_sg), r.length ≤ l.length → sgs r → ∃ p q, (some (.inl (⟨4, [], ss, nt⟩, ⟨r, true⟩)) : Option (Sum (T_pc × T_regex_reader) Unit)) = some (.inl (p, q)) ∧ q.rest.length ≤ l.length ∧ sgs q.rest ∧ wt p + q.rest.length ≤ 1 + ss.length + l.length ∧ (q.bad = false → b = false ∧ ((∀ s ∈ ss, spanOk s) → WF 0 p)) :=
      fun r hr hsr => ⟨_, _, rfl, hr, hsr, by simp only [wt, wts]; omega, fun h => by cases h⟩
    have go : ∀ (r : List T_sg) (s : T_regex_span) (b' : Bool), r.length + 1 ≤ l.length → sgs r → (b' = false → b = false ∧ spanOk s) → ∃ p q, (app 8 ss [s]).bind (fun l110 => rr_set.l0 k nt r b' l110) = some (.inl (p, q)) ∧ q.rest.length ≤ l.length ∧ sgs q.rest ∧ wt p + q.rest.length ≤ 1 + ss.length + l.length ∧ (q.bad = false → b = false ∧ ((∀ s ∈ ss, spanOk s) → WF 0 p)) := by
      intro r s b' hr hsr hbs
      rw [app_small (by simp; omega) (by decide)]
      simp only [obs]
      obtain ⟨p, q, e, k1, k2, k3, k4⟩ := set_l0 k nt r b' (ss ++ [s]) (by omega) hsr (by simp; omega)
      refine ⟨p, q, e, by omega, k2, by simp at k3; omega, fun hq => ?_⟩
      obtain ⟨j1, j2⟩ := k4 hq
      obtain ⟨j3, j4⟩ := hbs j1
      refine ⟨j3, fun hss => j2 fun x hx => ?_⟩
      rcases List.mem_append.1 hx with hx | hx
      · exact hss x hx
      · simp at hx; subst hx; exact j4
    by_cases hdg : (hd (dsp l1)).digits = true
    · rw [if_pos hdg]
      have hne := hd_ne (.inr hdg)
      have hlt := tail_lt hne
      have hok := (hd_ok (sgs_dsp hs1) hne).1 hdg
      have same : ∀ b' : Bool, b' = decide ((hd (dsp l1)).n > (hd (dsp l1)).n) → (b' = false → spanOk ⟨(hd (dsp l1)).n, (hd (dsp l1)).n⟩) := fun _ _ _ => ⟨hok.1, hok.1, Int.le_refl _⟩
      by_cases hr0 : (((dsp l1).tail.length : Nat) : Int) > 0
      · rw [if_pos hr0]
        cases ht : (dsp l1).tail with
        | nil => rw [ht] at hr0; exact absurd hr0 (by decide)
        | cons y t =>
          rw [ht] at hlt hst
          have hy : signOk y := hst y (List.mem_cons_self ..)
          have hlat : lat (y :: t) 0 = some y := rfl
          rw [hlat]
          simp only [obs]
          by_cases hc : y.c = 45
          · rw [if_pos hc]
            have hdy : dsp (y :: t) = y :: t := by simp [dsp, hc]
            rw [next_eq (by omega), hdy]
            simp only [obs, List.tail_cons]
            by_cases hz : ((t.length : Nat) : Int) = 0
            · rw [if_pos hz]
              simp only [obs]
              exact stop t (by simp at hlt; omega) fun x hx => hst x (List.mem_cons_of_mem _ hx)
            · rw [if_neg hz]
              cases t with
              | nil => exact absurd rfl hz
              | cons z t2 =>
                have hz' : signOk z := hst z (by simp)
                have hlat2 : lat (z :: t2) 0 = some z := rfl
                rw [hlat2]
                simp only [obs]
                by_cases hzd : z.digits = true
                · rw [if_pos hzd]
                  have hdz : dsp (z :: t2) = z :: t2 := by simp [dsp, (hz'.1 hzd).2]
                  rw [next_eq (by simp at hlt ⊢; omega), hdz]
                  simp only [obs, List.tail_cons, hd]
                  have hst2 : sgs t2 := fun x hx => hst x (by simp [hx])
                  by_cases hbb : b = true
                  · rw [if_pos hbb]
                    exact go t2 _ true (by simp at hlt; omega) hst2 (fun h => by cases h)
                  · rw [if_neg hbb]
                    refine go t2 _ _ (by simp at hlt; omega) hst2 (fun h => ⟨by simpa using hbb, hok.1, (hz'.1 hzd).1, ?_⟩)
                    simpa using h
                · rw [if_neg hzd]
                  simp only [obs]
                  exact stop _ (by simp at hlt ⊢; omega) fun x hx => hst x (List.mem_cons_of_mem _ hx)
          · rw [if_neg hc]
            simp only [obs]
            by_cases hbb : b = true
            · rw [if_pos hbb]
              exact go _ _ true (by omega) hst (fun h => by cases h)
            · rw [if_neg hbb]
              exact go _ _ _ (by omega) hst (fun h => ⟨by simpa using hbb, hok.1, hok.1, Int.le_refl _⟩)
      · rw [if_neg hr0]
        by_cases hbb : b = true
        · rw [if_pos hbb]
          exact go _ _ true (by omega) hst (fun h => by cases h)
        · rw [if_neg hbb]
          exact go _ _ _ (by omega) hst (fun h => ⟨by simpa using hbb, hok.1, hok.1, Int.le_refl _⟩)
    · rw [if_neg hdg]
      split
      · exact stop _ (by omega) hst
      · rename_i hbb
        split
        · refine ⟨_, _, rfl, (by show (dsp l1).tail.length ≤ _; omega), hst, (by simp only [wt, wts]; show 1 + 0 + ss.length + (dsp l1).tail.length ≤ _; omega), fun hq => ⟨by simpa using hbb, fun hss => .set ?_ hss⟩⟩
          rintro rfl
          simp at hq
        · exact stop _ (by omega) hst
theorem set_ok {k : Nat} {l : List T_sg} {b : Bool} (h : l.length + 3 < k) (hs : sgs l) (hb : l.length ≤ 100000) : Res l b 0 1 (rr_set.f k ⟨l, b⟩) := by
  rw [rr_set.f, peek_eq (by omega)]
  simp only [obs]
  have key : ∀ (r : List T_sg) (nt : Bool), r.length ≤ l.length → sgs r → Res l b 0 1 ((rr_set.l0 k nt r b []).bind fun o => match o with | .inl r => some r | .inr _ => none) := by
    intro r nt hr hsr
    obtain ⟨p, q, e, h1, h2, h3, h4⟩ := set_l0 k nt r b [] (by omega) hsr (by simp; omega)
    refine ⟨p, q, by rw [e]; rfl, by omega, h2, by simp at h3; omega, fun hq => ?_⟩
    obtain ⟨j1, j2⟩ := h4 hq
    exact ⟨j1, j2 (fun _ h => by cases h)⟩
  split
  · rename_i hc
    rw [next_eq (by have := dsp_len l; omega), dsp_dsp]
    simp only [obs]
    exact key _ _ (tail_len l) (sgs_tail hs)
  · simp only [obs]
    exact key _ _ (dsp_len l) (sgs_dsp hs)
end Go.Proofs.YtafnenafbognkaaGreatDoor
namespace Go.Proofs.YtafnenafbognkaaGreatDoor
open Sp
set_option maxRecDepth 100000
set_option maxHeartbeats 4000000
def ResL (l : List T_sg) (b : Bool) (ps : List T_pc) (kind : Nat) (o : Option (List T_pc × List T_sg × Bool)) : Prop :=
  ∃ ps' l' b', o = some (ps', l', b') ∧ l'.length ≤ l.length ∧ sgs l' ∧ wts ps' + 4 * l'.length ≤ wts ps + 4 * l.length ∧ (ps ≠ [] → ps' ≠ []) ∧ (b' = false → b = false ∧ ((∀ x ∈ ps, WF kind x) → ∀ x ∈ ps', WF kind x))
def AllN (n : Nat) : Prop := ∀ (l : List T_sg) (b : Bool), l.length = n → sgs l → l.length ≤ 100000 →
  (∀ k ps, 4 * n + 2 ≤ k → wts ps + 4 * n ≤ 1000000 → ResL l b ps 0 (rr_row.l0 k ps l b)) ∧
  (∀ k, 4 * n + 3 ≤ k → Res l b 1 1 (rr_row.f k ⟨l, b⟩)) ∧
  (∀ k ps, 4 * n + 2 ≤ k → wts ps + 4 * n ≤ 1000000 → ResL l b ps 1 (rr_choices.l0 k ps l b)) ∧
  (∀ k, 4 * n + 4 ≤ k → Res l b 2 2 (rr_choices.f k ⟨l, b⟩)) ∧
  (∀ k x, 4 * n + 5 ≤ k → signOk x → Res l b 0 3 (rr_atom.f k ⟨l, b⟩ x))
theorem all_n (n : Nat) (ih : ∀ m, m < n → AllN m) : AllN n := by
  intro l b hn hs hb
  have dl := dsp_len l
  have hsd := sgs_dsp hs
  -- a row on the way
  have hrow0 : ∀ k ps, 4 * n + 2 ≤ k → wts ps + 4 * n ≤ 1000000 → ResL l b ps 0 (rr_row.l0 k ps l b) := by
    intro k ps hk hw
    cases k with
    | zero => omega
    | succ k =>
      rw [rr_row.l0]
      by_cases hbb : b = true
      · rw [if_pos hbb]
        exact ⟨ps, l, b, rfl, Nat.le_refl _, hs, Nat.le_refl _, id, fun h => ⟨h, id⟩⟩
      · rw [if_neg hbb, peek_eq (by omega)]
        simp only [obs]
        rw [next_eq (by omega), dsp_dsp]
        simp only [obs]
        have stay : ResL l b ps 0 (some (ps, dsp l, b)) := ⟨ps, dsp l, b, rfl, dl, hsd, by omega, id, fun h => ⟨h, id⟩⟩
        have go : dsp l ≠ [] → ResL l b ps 0 ((rr_atom.f k ⟨(dsp l).tail, b⟩ (hd (dsp l))).bind fun y38 => ((rr_repeats.f k y38.2 y38.1).bind fun y42 => ((app 64 ps [y42.1]).bind fun l50 => (rr_row.l0 k l50 y42.2.rest y42.2.bad)))) := by
          intro hne
          have hlt := tail_lt hne
          obtain ⟨_, _, _, _, ha⟩ := ih _ (show (dsp l).tail.length < n by omega) (dsp l).tail b rfl (sgs_tail hs) (by omega)
          obtain ⟨p, r, e1, h1, h2, h3, h4⟩ := ha k (hd (dsp l)) (by omega) (hd_ok hsd hne)
          rw [e1]
          simp only [obs]
          obtain ⟨q, r2, e2, j1, j2, j3, j4, j5⟩ := repeats_ok (k := k) (p := p) (l := r.rest) (b := r.bad) (by omega) h2
          rw [show (⟨r.rest, r.bad⟩ : T_regex_reader) = r from rfl] at e2
          rw [e2]
          simp only [obs]
          have hpl := wts_len ps
          rw [app_small (by simp; omega) (by decide)]
          simp only [obs]
          have hwq : wts (ps ++ [q]) = wts ps + wt q := by rw [wts_app]; simp [wts]
          obtain ⟨g, _, _, _, _⟩ := ih _ (show r2.rest.length < n by omega) r2.rest r2.bad rfl j3 (by omega)
          obtain ⟨ps', l', b', e3, g1, g2, g3, g4, g5⟩ := g k (ps ++ [q]) (by omega) (by omega)
          refine ⟨ps', l', b', e3, by omega, g2, by omega, fun _ => g4 (by simp), fun hb' => ?_⟩
          obtain ⟨k1, k2⟩ := g5 hb'
          rw [j2] at k1
          obtain ⟨k3, k4⟩ := h4 k1
          refine ⟨k3, fun hps => k2 fun x hx => ?_⟩
          rcases List.mem_append.1 hx with hx | hx
          · exact hps x hx
          · simp at hx; subst hx; exact j5 k4
        split
        · rename_i hdg
          exact go (hd_ne (.inr hdg))
        · split
          · exact stay
          · rename_i hc
            split
            · exact stay
            · split
              · exact stay
              · exact go (hd_ne (.inl hc))
  have hrow : ∀ k, 4 * n + 3 ≤ k → Res l b 1 1 (rr_row.f k ⟨l, b⟩) := by
    intro k hk
    cases k with
    | zero => omega
    | succ k =>
      rw [rr_row.f]
      obtain ⟨ps', l', b', e, h1, h2, h3, _, h5⟩ := hrow0 k [] (by omega) (by simp [wts]; omega)
      rw [e]
      simp only [obs]
      refine ⟨_, _, rfl, h1, h2, ?_, fun hb' => ?_⟩
      · simp only [wt, wts, List.length_nil] at h3 ⊢; omega
      · obtain ⟨k1, k2⟩ := h5 hb'
        exact ⟨k1, .row (k2 (fun _ h => by cases h))⟩
  have hch0 : ∀ k ps, 4 * n + 2 ≤ k → wts ps + 4 * n ≤ 1000000 → ResL l b ps 1 (rr_choices.l0 k ps l b) := by
    intro k ps hk hw
    cases k with
    | zero => omega
    | succ k =>
      rw [rr_choices.l0]
      by_cases hbb : b = true
      · rw [if_pos hbb]
        exact ⟨ps, l, b, rfl, Nat.le_refl _, hs, Nat.le_refl _, id, fun h => ⟨h, id⟩⟩
      · rw [if_neg hbb, peek_eq (by omega)]
        simp only [obs]
        split
        · rename_i hc
          rw [next_eq (by omega), dsp_dsp]
          simp only [obs]
          have hlt := tail_lt (hd_ne (.inl (by rw [hc]; decide)))
          obtain ⟨_, hr, _, _, _⟩ := ih _ (show (dsp l).tail.length < n by omega) (dsp l).tail b rfl (sgs_tail hs) (by omega)
          obtain ⟨p, r, e1, h1, h2, h3, h4⟩ := hr k (by omega)
          rw [e1]
          simp only [obs]
          have hpl := wts_len ps
          rw [app_small (by simp; omega) (by decide)]
          simp only [obs]
          have hwq : wts (ps ++ [p]) = wts ps + wt p := by rw [wts_app]; simp [wts]
          obtain ⟨_, _, g, _, _⟩ := ih _ (show r.rest.length < n by omega) r.rest r.bad rfl h2 (by omega)
          obtain ⟨ps', l', b', e3, g1, g2, g3, g4, g5⟩ := g k (ps ++ [p]) (by omega) (by omega)
          refine ⟨ps', l', b', e3, by omega, g2, by omega, fun _ => g4 (by simp), fun hb' => ?_⟩
          obtain ⟨k1, k2⟩ := g5 hb'
          obtain ⟨k3, k4⟩ := h4 k1
          refine ⟨k3, fun hps => k2 fun x hx => ?_⟩
          rcases List.mem_append.1 hx with hx | hx
          · exact hps x hx
          · simp at hx; subst hx; exact k4
        · exact ⟨ps, dsp l, b, rfl, dl, hsd, by omega, id, fun h => ⟨h, id⟩⟩
  have hch : ∀ k, 4 * n + 4 ≤ k → Res l b 2 2 (rr_choices.f k ⟨l, b⟩) := by
    intro k hk
    cases k with
    | zero => omega
    | succ k =>
      rw [rr_choices.f]
      obtain ⟨p, r, e1, h1, h2, h3, h4⟩ := hrow k (by omega)
      rw [e1]
      simp only [obs]
      have key : ResL r.rest r.bad [p] 1 (rr_choices.l0 k [p] r.rest r.bad) := by
        by_cases hr : r.rest.length < n
        · obtain ⟨_, _, g, _, _⟩ := ih _ hr r.rest r.bad rfl h2 (by omega)
          exact g k [p] (by omega) (by simp only [wts]; omega)
        · -- nothing was taken: the same length
          have hl : r.rest.length = n := by omega
          clear hrow0 hrow hch0
          -- the loop by itself, at this length
          cases k with
          | zero => omega
          | succ k =>
            rw [rr_choices.l0]
            have hbnd : wts [p] + 4 * r.rest.length ≤ 4 * l.length + 1 := by simp only [wts]; omega
            by_cases hbb : r.bad = true
            · rw [if_pos hbb]
              exact ⟨[p], r.rest, r.bad, rfl, Nat.le_refl _, h2, Nat.le_refl _, id, fun h => ⟨h, id⟩⟩
            · rw [if_neg hbb, peek_eq (by omega)]
              simp only [obs]
              have dl2 := dsp_len r.rest
              split
              · rename_i hc
                rw [next_eq (by omega), dsp_dsp]
                simp only [obs]
                have hlt := tail_lt (hd_ne (.inl (by rw [hc]; decide)))
                obtain ⟨_, hr2, _, _, _⟩ := ih _ (show (dsp r.rest).tail.length < n by omega) (dsp r.rest).tail r.bad rfl (sgs_tail h2) (by omega)
                obtain ⟨p2, r2, e2, i1, i2, i3, i4⟩ := hr2 k (by omega)
                rw [e2]
                simp only [obs]
                rw [app_small (by simp) (by decide)]
                simp only [obs]
                have hwq : wts ([p] ++ [p2]) = wts [p] + wt p2 := by rw [wts_app]; simp [wts]
                obtain ⟨_, _, g, _, _⟩ := ih _ (show r2.rest.length < n by omega) r2.rest r2.bad rfl i2 (by omega)
                obtain ⟨ps', l', b', e3, g1, g2, g3, g4, g5⟩ := g k ([p] ++ [p2]) (by omega) (by omega)
                refine ⟨ps', l', b', e3, by omega, g2, by omega, fun _ => g4 (by simp), fun hb' => ?_⟩
                obtain ⟨k1, k2⟩ := g5 hb'
                obtain ⟨k3, k4⟩ := i4 k1
                refine ⟨k3, fun hps => k2 fun x hx => ?_⟩
                rcases List.mem_append.1 hx with hx | hx
                · exact hps x hx
                · simp at hx; subst hx; exact k4
              · exact ⟨[p], dsp r.rest, r.bad, rfl, dl2, sgs_dsp h2, by omega, id, fun h => ⟨h, id⟩⟩
      obtain ⟨ps', l', b', e, j1, j2, j3, j4, j5⟩ := key
      rw [e]
      simp only [obs]
      refine ⟨_, _, rfl, by show l'.length ≤ _; omega, j2, ?_, fun hb' => ?_⟩
      · simp only [wt, wts, List.length_nil] at j3 h3 ⊢; omega
      · obtain ⟨k1, k2⟩ := j5 hb'
        obtain ⟨k3, k4⟩ := h4 k1
        exact ⟨k3, .choice (j4 (by simp)) (k2 fun x hx => by simp at hx; subst hx; exact k4)⟩
  refine ⟨hrow0, hrow, hch0, hch, ?_⟩
  intro k x hk hx
  cases k with
  | zero => omega
  | succ k =>
    rw [rr_atom.f]
    have one : ∀ (p : T_pc), wt p ≤ 2 → WF 0 p → Res l b 0 3 (some (p, ⟨l, b⟩)) := fun p hp hw => ⟨p, ⟨l, b⟩, rfl, Nat.le_refl _, hs, by show wt p + 4 * l.length ≤ _; omega, fun h => ⟨h, hw⟩⟩
    split
    · rename_i hdg
      exact one _ (by simp [wt, wts]) (.num (hx.1 hdg).1)
    · split
      · exact one _ (by simp [wt, wts]) .any
      · split
        · exact one _ (by simp [wt, wts]) .start
        · split
          · exact one _ (by simp [wt, wts]) .stop
          · split
            · obtain ⟨p, r, e, h1, h2, h3, h4⟩ := set_ok (k := k) (l := l) (b := b) (by omega) hs hb
              rw [e]
              exact ⟨p, r, rfl, h1, h2, by omega, h4⟩
            · split
              · obtain ⟨p, r, e, h1, h2, h3, h4⟩ := hch k (by omega)
                rw [e]
                simp only [obs]
                split
                · exact ⟨p, ⟨r.rest, true⟩, rfl, h1, h2, by show wt p + 4 * r.rest.length ≤ _; omega, fun h => by cases h⟩
                · rename_i hbb
                  have hn := next_eq (k := k) (l := r.rest) (b := r.bad) (by omega)
                  rw [show (⟨r.rest, r.bad⟩ : T_regex_reader) = r from rfl] at hn
                  rw [hn]
                  simp only [obs]
                  have ht := tail_len r.rest
                  refine ⟨p, _, rfl, by show (dsp r.rest).tail.length ≤ _; omega, sgs_tail h2, by show wt p + 4 * (dsp r.rest).tail.length ≤ _; omega, fun _ => ?_⟩
                  obtain ⟨k1, k2⟩ := h4 (by simpa using hbb)
                  exact ⟨k1, .par k2⟩
              · exact ⟨⟨0, [], [], false⟩, ⟨l, true⟩, rfl, Nat.le_refl _, hs, by simp [wt, wts]; omega, fun h => by cases h⟩
theorem all_ok (n : Nat) : AllN n := Nat.strongRecOn n fun n ih => all_n n ih
theorem choices_ok {k : Nat} {l : List T_sg} {b : Bool} (h : 4 * l.length + 4 ≤ k) (hs : sgs l) (hb : l.length ≤ 100000) : Res l b 2 2 (rr_choices.f k ⟨l, b⟩) :=
  (all_ok l.length l b rfl hs hb).2.2.2.1 k h
end Go.Proofs.YtafnenafbognkaaGreatDoor
namespace Go.Proofs.YtafnenafbognkaaGreatDoor
open Sp
set_option maxRecDepth 100000
set_option maxHeartbeats 4000000
def stepOk (n : Nat) (s : T_regex_step) : Prop := ((s.op = 0 ∨ s.op = 1 ∨ s.op = 2 ∨ s.op = 3) ∧ s.spans.length ≤ 1000000) ∧ (0 ≤ s.to_.1 ∧ s.to_.1 ≤ n) ∧ (0 ≤ s.to_.2 ∧ s.to_.2 ≤ n)
def V (p : List T_regex_step) : Prop := ∀ s ∈ p, stepOk p.length s
theorem stepOk.mono {n m : Nat} {s : T_regex_step} (h : stepOk n s) (hn : n ≤ m) : stepOk m s := ⟨h.1, ⟨h.2.1.1, by have := h.2.1.2; omega⟩, ⟨h.2.2.1, by have := h.2.2.2; omega⟩⟩
theorem V.app {p : List T_regex_step} (h : V p) {s : T_regex_step} (hs : stepOk (p.length + 1) s) : V (p ++ [s]) := fun x hx => by
  rw [List.length_append]
  rcases List.mem_append.1 hx with hx | hx
  · exact (h x hx).mono (by omega)
  · simp at hx; subst hx; exact hs
theorem V.set {p : List T_regex_step} (h : V p) (i : Nat) {s : T_regex_step} (hs : stepOk p.length s) : V (p.set i s) := fun x hx => by
  rw [List.length_set]
  rcases List.mem_or_eq_of_mem_set hx with hx | rfl
  · exact h x hx
  · exact hs
theorem V.get {p : List T_regex_step} (h : V p) {i : Int} (h0 : 0 ≤ i) (h1 : i < p.length) : ∃ s, lat p i = some s ∧ stepOk p.length s := by
  obtain ⟨s, e, e2⟩ := lat_lt h0 h1
  exact ⟨s, e, h s (List.mem_of_getElem? e2)⟩
theorem peta (t : T_pc) : (⟨t.kind, t.parts, t.spans, t.not⟩ : T_pc) = t := by cases t; rfl
theorem put_ok {k : Nat} {t : T_pc} {p : List T_regex_step} (s : T_regex_step) (h : p.length ≤ 1000000) : regex_Expr_put.f k ⟨t, p⟩ s = some ((p.length : Int), ⟨t, p ++ [s]⟩) := by
  rw [regex_Expr_put.f]
  have ha : Sp.app 56 p [s] = some (p ++ [s]) := app_small (by simp <;> omega) (by decide)
  simp only [ha, obs]
  rw [show i64 (((p ++ [s]).length : Int) - 1) = (p.length : Int) by rw [List.length_append]; simp only [List.length_singleton]; rw [i64_id (by omega) (by omega)]; omega]
def Comp (t : T_pc) (p : List T_regex_step) (w : Nat) (o : Option T_regex_Expr) : Prop :=
  ∃ q, o = some ⟨t, q⟩ ∧ V q ∧ p.length ≤ q.length ∧ q.length + 2 ≤ p.length + 4 * w
def CompAll (n : Nat) : Prop := ∀ (x : T_pc) (j : Nat), WF j x → wt x ≤ n → ∀ (k : Nat) (t : T_pc) (p : List T_regex_step), 4 * wt x ≤ k → V p → p.length + 4 * wt x ≤ 1000000 → Comp t p (wt x) (regex_Expr_compile.f k ⟨t, p⟩ x)
theorem wt_pos (x : T_pc) : 1 ≤ wt x := by obtain ⟨_, _, _, _⟩ := x; simp only [wt]; omega
theorem wt_mem {x : T_pc} : ∀ {l : List T_pc}, x ∈ l → wt x ≤ wts l
  | y :: l, h => by
    simp only [wts]
    rcases List.mem_cons.1 h with rfl | h
    · omega
    · have := wt_mem h; omega
theorem wts_drop {l : List T_pc} {i : Nat} {x : T_pc} (h : l[i]? = some x) : wts (l.drop i) = wt x + wts (l.drop (i + 1)) := by
  have hlt := (List.getElem?_eq_some_iff.1 h).1
  have he : l[i] = x := by have := (List.getElem?_eq_some_iff.1 h).2; exact this
  rw [List.drop_eq_getElem_cons hlt, wts, he]
theorem comp_l0 {n : Nat} (ih : CompAll n) (x1 : T_pc) {j : Nat} (hw : ∀ y ∈ x1.parts, WF j y) (hn : wts x1.parts ≤ n) (hlen : x1.parts.length ≤ 1000000) :
    ∀ (k i : Nat) (t : T_pc) (p : List T_regex_step), i ≤ x1.parts.length → 4 * wts (x1.parts.drop i) + 1 ≤ k → V p → p.length + 4 * wts (x1.parts.drop i) ≤ 1000000 →
      ∃ q, regex_Expr_compile.l0 k x1 (i : Int) t.kind t.parts t.spans t.not p = some (t.kind, t.parts, t.spans, t.not, q) ∧ V q ∧ p.length ≤ q.length ∧ q.length ≤ p.length + 4 * wts (x1.parts.drop i)
  | 0, _, _, _, _, h, _, _ => by omega
  | k + 1, i, t, p, hi, hk, hV, hb => by
    rw [regex_Expr_compile.l0]
    by_cases hlt : i < x1.parts.length
    · rw [if_pos (by omega), lat_nat, List.getElem?_eq_getElem hlt]
      simp only [obs]
      have hd := wts_drop (l := x1.parts) (i := i) (x := x1.parts[i]) (by simp [hlt])
      have hmem : x1.parts[i] ∈ x1.parts := List.getElem_mem hlt
      have hle := wt_mem hmem
      have hp1 := wt_pos x1.parts[i]
      obtain ⟨q, e, h1, h2, h3⟩ := ih x1.parts[i] j (hw _ hmem) (by omega) k ⟨t.kind, t.parts, t.spans, t.not⟩ p (by omega) hV (by omega)
      rw [e]
      simp only [obs]
      rw [i64_id (by omega) (by omega), show ((i : Int) + 1) = ((i + 1 : Nat) : Int) by omega]
      obtain ⟨q2, e2, h4, h5, h6⟩ := comp_l0 ih x1 hw hn hlen k (i + 1) t q (by omega) (by omega) h1 (by omega)
      exact ⟨q2, e2, h4, by omega, by omega⟩
    · rw [if_neg (by omega)]
      exact ⟨p, rfl, hV, Nat.le_refl _, by omega⟩
theorem ch_l1 (js : List Int) : ∀ (k i : Nat) (p : List T_regex_step), i ≤ js.length → js.length < k + i → (∀ j ∈ js, 0 ≤ j ∧ j < p.length) → V p → p.length ≤ 1000000 → js.length ≤ 1000000 →
    ∃ q, regex_Expr_choices.l1 k js (i : Int) p = some q ∧ V q ∧ q.length = p.length
  | 0, _, _, _, h, _, _, _, _ => by omega
  | k + 1, i, p, hi, hk, hj, hV, hb, hb2 => by
    rw [regex_Expr_choices.l1]
    by_cases hlt : i < js.length
    · rw [if_pos (by omega), lat_nat, List.getElem?_eq_getElem hlt]
      simp only [obs]
      obtain ⟨h0, h1⟩ := hj js[i] (List.getElem_mem hlt)
      obtain ⟨s, e, hs⟩ := hV.get h0 h1
      rw [e]
      simp only [obs]
      rw [i64_id (by omega) (by omega), show ((i : Int) + 1) = ((i + 1 : Nat) : Int) by omega]
      have hV' : V (p.set (js[i]).toNat ⟨s.op, s.spans, s.all, s.not, ((p.length : Int), (p.length : Int))⟩) := hV.set _ ⟨hs.1, ⟨Int.natCast_nonneg _, by show (p.length : Int) ≤ _; omega⟩, ⟨Int.natCast_nonneg _, by show (p.length : Int) ≤ _; omega⟩⟩
      obtain ⟨q, e2, h2, h3⟩ := ch_l1 js k (i + 1) _ (by omega) (by omega) (fun j hjm => by rw [List.length_set]; exact hj j hjm) hV' (by rw [List.length_set]; exact hb) hb2
      exact ⟨q, e2, h2, by rw [h3, List.length_set]⟩
    · rw [if_neg (by omega)]
      exact ⟨p, rfl, hV, rfl⟩
theorem ch_l0 {n : Nat} (ih : CompAll n) (x1 : List T_pc) (hw : ∀ y ∈ x1, WF 1 y) (hn : wts x1 ≤ n) (hlen : x1.length ≤ 1000000) :
    ∀ (k i : Nat) (js : List Int) (t : T_pc) (p : List T_regex_step), i < x1.length → 4 * wts (x1.drop i) + 1 ≤ k → V p → p.length + 4 * wts (x1.drop i) ≤ 1000000 → (∀ j ∈ js, 0 ≤ j ∧ j < p.length) → js.length ≤ i →
      ∃ js' q, regex_Expr_choices.l0 k x1 js (i : Int) t.kind t.parts t.spans t.not p = some (js', t.kind, t.parts, t.spans, t.not, q) ∧ V q ∧ p.length ≤ q.length ∧ q.length ≤ p.length + 4 * wts (x1.drop i) ∧ (∀ j ∈ js', 0 ≤ j ∧ j < q.length) ∧ js'.length ≤ x1.length
  | 0, _, _, _, _, _, h, _, _, _, _ => by omega
  | k + 1, i, js, t, p, hi, hk, hV, hb, hj, hjl => by
    rw [regex_Expr_choices.l0, if_pos (by omega), lat_nat, List.getElem?_eq_getElem hi]
    simp only [obs]
    have hd := wts_drop (l := x1) (i := i) (x := x1[i]) (by simp [hi])
    have hmem : x1[i] ∈ x1 := List.getElem_mem hi
    have hle := wt_mem hmem
    have hp1 := wt_pos x1[i]
    have hxl := wts_len (x1.drop i)
    rw [List.length_drop] at hxl
    have hxl2 := wts_len (x1.drop (i + 1))
    rw [List.length_drop] at hxl2
    rw [i64_id (by omega) (by omega)]
    by_cases hlast : (i : Int) = (x1.length : Int) - 1
    · rw [if_pos hlast]
      obtain ⟨q, e, h1, h2, h3⟩ := ih x1[i] 1 (hw _ hmem) (by omega) k ⟨t.kind, t.parts, t.spans, t.not⟩ p (by omega) hV (by omega)
      rw [e]
      exact ⟨js, q, rfl, h1, h2, by omega, fun j hjm => by have := hj j hjm; omega, by omega⟩
    · rw [if_neg hlast, put_ok _ (by omega)]
      simp only [obs]
      have hV1 : V (p ++ [⟨1, [], false, false, (0, 0)⟩]) := hV.app ⟨⟨.inr (.inl rfl), Nat.zero_le _⟩, ⟨Int.le_refl _, Int.natCast_nonneg _⟩, ⟨Int.le_refl _, Int.natCast_nonneg _⟩⟩
      obtain ⟨s, e, hs⟩ := hV1.get (i := (p.length : Int)) (by omega) (by simp <;> omega)
      rw [e]
      simp only [obs]
      have hV2 : V ((p ++ [(⟨1, [], false, false, (0, 0)⟩ : T_regex_step)]).set (p.length : Int).toNat ⟨s.op, s.spans, s.all, s.not, (((p ++ [(⟨1, [], false, false, (0, 0)⟩ : T_regex_step)]).length : Int), s.to_.2)⟩) :=
        hV1.set _ ⟨hs.1, ⟨Int.natCast_nonneg _, by show (((p ++ [_]).length : Nat) : Int) ≤ _; omega⟩, hs.2.2⟩
      obtain ⟨q, e1, h1, h2, h3⟩ := ih x1[i] 1 (hw _ hmem) (by omega) k ⟨t.kind, t.parts, t.spans, t.not⟩ _ (by omega) hV2 (by simp <;> omega)
      rw [List.length_set, List.length_append, List.length_singleton] at h2 h3
      rw [e1]
      simp only [obs]
      rw [put_ok _ (by omega)]
      simp only [obs]
      have hja : Sp.app 8 js [(q.length : Int)] = some (js ++ [(q.length : Int)]) := app_small (by simp <;> omega) (by decide)
      rw [hja]
      simp only [obs]
      have hV3 : V (q ++ [⟨1, [], false, false, (0, 0)⟩]) := h1.app ⟨⟨.inr (.inl rfl), Nat.zero_le _⟩, ⟨Int.le_refl _, Int.natCast_nonneg _⟩, ⟨Int.le_refl _, Int.natCast_nonneg _⟩⟩
      obtain ⟨s2, e2, hs2⟩ := hV3.get (i := (p.length : Int)) (by omega) (by simp <;> omega)
      rw [e2]
      simp only [obs]
      have hV4 : V ((q ++ [(⟨1, [], false, false, (0, 0)⟩ : T_regex_step)]).set (p.length : Int).toNat ⟨s2.op, s2.spans, s2.all, s2.not, (s2.to_.1, ((q ++ [(⟨1, [], false, false, (0, 0)⟩ : T_regex_step)]).length : Int))⟩) :=
        hV3.set _ ⟨hs2.1, hs2.2.1, ⟨Int.natCast_nonneg _, by show (((q ++ [_]).length : Nat) : Int) ≤ _; omega⟩⟩
      rw [i64_id (by omega) (by omega), show ((i : Int) + 1) = ((i + 1 : Nat) : Int) by omega]
      obtain ⟨js', q2, e3, h4, h5, h6, h7, h8⟩ := ch_l0 ih x1 hw hn hlen k (i + 1) (js ++ [(q.length : Int)]) ⟨t.kind, t.parts, t.spans, t.not⟩ _ (by omega) (by omega) hV4 (by simp <;> omega) (fun j hjm => by
        rw [List.length_set, List.length_append, List.length_singleton]
        rcases List.mem_append.1 hjm with hjm | hjm
        · have := hj j hjm; omega
        · simp at hjm; subst hjm; omega) (by simp <;> omega)
      rw [List.length_set, List.length_append, List.length_singleton] at h5 h6
      exact ⟨js', q2, e3, h4, by omega, by omega, h7, h8⟩
theorem ch_ok {n : Nat} (ih : CompAll n) {x1 : List T_pc} (hne : x1 ≠ []) (hw : ∀ y ∈ x1, WF 1 y) (hn : wts x1 ≤ n) {k : Nat} {t : T_pc} {p : List T_regex_step} (hk : 4 * wts x1 + 2 ≤ k) (hV : V p) (hb : p.length + 4 * wts x1 ≤ 1000000) :
    ∃ q, regex_Expr_choices.f k ⟨t, p⟩ x1 = some ⟨t, q⟩ ∧ V q ∧ p.length ≤ q.length ∧ q.length ≤ p.length + 4 * wts x1 := by
  cases k with
  | zero => omega
  | succ k =>
    rw [regex_Expr_choices.f]
    have hl : 0 < x1.length := List.length_pos_iff.2 hne
    have hxl := wts_len x1
    obtain ⟨js, q, e, h1, h2, h3, h4, h5⟩ := ch_l0 ih x1 hw hn (by omega) k 0 [] t p hl (by simp <;> omega) hV (by simpa using hb) (fun _ h => by cases h) (Nat.le_refl _)
    rw [List.drop_zero] at h3
    rw [show ((0 : Nat) : Int) = 0 from rfl] at e
    rw [e]
    simp only [obs]
    obtain ⟨q2, e2, h6, h7⟩ := ch_l1 js k 0 q (Nat.zero_le _) (by omega) h4 h1 (by omega) (by omega)
    rw [show ((0 : Nat) : Int) = 0 from rfl] at e2
    rw [e2]
    refine ⟨q2, ?_, h6, by omega, by omega⟩
    simp only [obs, peta]
theorem comp_n (n : Nat) (ih : CompAll n) : CompAll (n + 1) := by
  intro x j hx hn k t p hk hV hb
  have hp1 := wt_pos x
  cases k with
  | zero => omega
  | succ k =>
    rw [regex_Expr_compile.f]
    have put1 : ∀ (s : T_regex_step), stepOk (p.length + 1) s → Comp t p (wt x) ((regex_Expr_put.f k ⟨t, p⟩ s).bind fun y => some y.2) := by
      intro s hs
      rw [put_ok s (by omega)]
      exact ⟨_, rfl, hV.app hs, by simp, by simp <;> omega⟩
    have z : (0 : Int) ≤ ((p.length + 1 : Nat) : Int) := by omega
    cases hx with
    | num h => exact put1 _ ⟨⟨.inl rfl, by simp⟩, ⟨Int.le_refl _, z⟩, ⟨Int.le_refl _, z⟩⟩
    | any => exact put1 _ ⟨⟨.inl rfl, Nat.zero_le _⟩, ⟨Int.le_refl _, z⟩, ⟨Int.le_refl _, z⟩⟩
    | start => exact put1 _ ⟨⟨.inr (.inr (.inl rfl)), Nat.zero_le _⟩, ⟨Int.le_refl _, z⟩, ⟨Int.le_refl _, z⟩⟩
    | stop => exact put1 _ ⟨⟨.inr (.inr (.inr rfl)), Nat.zero_le _⟩, ⟨Int.le_refl _, z⟩, ⟨Int.le_refl _, z⟩⟩
    | @set ss _ h1 h2 => exact put1 _ ⟨⟨.inl rfl, by simp only [wt, wts] at hb; show ss.length ≤ _; omega⟩, ⟨Int.le_refl _, z⟩, ⟨Int.le_refl _, z⟩⟩
    | par h =>
      cases h with
      | choice hne hw =>
        rename_i ps
        simp only [wt, List.length_nil] at hn hk hb ⊢
        obtain ⟨q, e, h1, h2, h3⟩ := ch_ok ih hne hw (by omega) (k := k) (t := t) (p := p) (by omega) hV (by omega)
        have h01 : ¬ (1 : Int) = 0 := by decide
        simp only [if_neg h01, if_true, e, obs]
        exact ⟨q, rfl, h1, h2, by omega⟩
    | choice hne hw =>
      rename_i ps
      simp only [wt, List.length_nil] at hn hk hb ⊢
      obtain ⟨q, e, h1, h2, h3⟩ := ch_ok ih hne hw (by omega) (k := k) (t := t) (p := p) (by omega) hV (by omega)
      have h01 : ¬ (1 : Int) = 0 := by decide
      simp only [if_neg h01, if_true, e, obs]
      exact ⟨q, rfl, h1, h2, by omega⟩
    | row hw =>
      rename_i ps
      simp only [wt, List.length_nil] at hn hk hb ⊢
      obtain ⟨q, e, h1, h2, h3⟩ := comp_l0 ih ⟨0, ps, [], false⟩ hw (by show wts ps ≤ n; omega) (by have := wts_len ps; show ps.length ≤ _; omega) k 0 t p (Nat.zero_le _) (by show 4 * wts (ps.drop 0) + 1 ≤ k; rw [List.drop_zero]; omega) hV (by show p.length + 4 * wts (ps.drop 0) ≤ _; rw [List.drop_zero]; omega)
      rw [show ((0 : Nat) : Int) = 0 from rfl] at e
      simp only [if_true, e, obs]
      have h3' : q.length ≤ p.length + 4 * wts ps := by simpa using h3
      exact ⟨q, by simp only [peta], h1, h2, by omega⟩
    | rep hkk hq =>
      rename_i c r
      simp only [wt, wts, List.length_nil] at hn hk hb ⊢
      have hr1 := wt_pos r
      have hsp : ∀ q : List T_regex_step, stepOk (q.length + 1) ⟨1, [], false, false, (0, 0)⟩ := fun q => ⟨⟨.inr (.inl rfl), Nat.zero_le _⟩, ⟨Int.le_refl _, Int.natCast_nonneg _⟩, ⟨Int.le_refl _, Int.natCast_nonneg _⟩⟩
      have hl0 : lat [r] 0 = some r := rfl
      by_cases h8 : c = 8
      · subst h8
        obtain ⟨q, e, h1, h2, h3⟩ := ih r 0 hq (by omega) k t p (by omega) hV (by omega)
        have f0 : ¬ (8 : Int) = 0 := by decide
        have f1 : ¬ (8 : Int) = 1 := by decide
        have f2 : ¬ (8 : Int) = 2 := by decide
        have f3 : ¬ (8 : Int) = 3 := by decide
        have f5 : ¬ (8 : Int) = 5 := by decide
        have f6 : ¬ (8 : Int) = 6 := by decide
        have f4 : ((8 : Int) == 4) = false := by decide
        simp only [if_neg f0, if_neg f1, if_neg f2, if_neg f3, if_neg f5, if_neg f6, f4, obs, Bool.false_eq_true, if_false, if_true, hl0, e]
        rw [put_ok _ (by omega)]
        simp only [obs]
        have hV1 : V (q ++ [⟨1, [], false, false, (0, 0)⟩]) := h1.app (hsp q)
        obtain ⟨s, e2, hs⟩ := hV1.get (i := (q.length : Int)) (by omega) (by simp <;> omega)
        rw [e2]
        refine ⟨_, rfl, hV1.set _ ⟨hs.1, ⟨Int.natCast_nonneg _, by show (p.length : Int) ≤ _; simp; omega⟩, ⟨Int.natCast_nonneg _, by show (((q ++ [_]).length : Nat) : Int) ≤ _; omega⟩⟩, by simp <;> omega, by simp <;> omega⟩
      · have hc79 : c = 7 ∨ c = 9 := by omega
        have f0 : ¬ c = 0 := by omega
        have f1 : ¬ c = 1 := by omega
        have f2 : ¬ c = 2 := by omega
        have f3 : ¬ c = 3 := by omega
        have f5 : ¬ c = 5 := by omega
        have f6 : ¬ c = 6 := by omega
        have f4 : (c == 4) = false := by simp <;> omega
        simp only [if_neg f0, if_neg f1, if_neg f2, if_neg f3, if_neg f5, if_neg f6, if_neg h8, f4, obs, Bool.false_eq_true, if_false]
        rw [put_ok _ (by omega)]
        simp only [obs]
        have hV1 : V (p ++ [⟨1, [], false, false, (0, 0)⟩]) := hV.app (hsp p)
        obtain ⟨s, e2, hs⟩ := hV1.get (i := (p.length : Int)) (by omega) (by simp <;> omega)
        rw [e2]
        simp only [obs, hl0]
        have hV2 : V ((p ++ [(⟨1, [], false, false, (0, 0)⟩ : T_regex_step)]).set (p.length : Int).toNat ⟨s.op, s.spans, s.all, s.not, (((p ++ [(⟨1, [], false, false, (0, 0)⟩ : T_regex_step)]).length : Int), s.to_.2)⟩) :=
          hV1.set _ ⟨hs.1, ⟨Int.natCast_nonneg _, by show (((p ++ [_]).length : Nat) : Int) ≤ _; omega⟩, hs.2.2⟩
        obtain ⟨q, e, h1, h2, h3⟩ := ih r 0 hq (by omega) k t _ (by omega) hV2 (by simp <;> omega)
        rw [List.length_set, List.length_append, List.length_singleton] at h2 h3
        rw [e]
        simp only [obs]
        have fin : ∀ q2 : List T_regex_step, V q2 → p.length + 1 ≤ q2.length → q2.length ≤ q.length + 1 → Comp t p (1 + (wt r + 0) + 0) ((lat q2 (p.length : Int)).bind fun y168 => some ⟨⟨t.kind, t.parts, t.spans, t.not⟩, q2.set (p.length : Int).toNat ⟨y168.op, y168.spans, y168.all, y168.not, (y168.to_.1, (q2.length : Int))⟩⟩) := by
          intro q2 hV3 hl1 hl2
          obtain ⟨s3, e3, hs3⟩ := hV3.get (i := (p.length : Int)) (by omega) (by omega)
          rw [e3]
          simp only [obs, peta]
          exact ⟨_, rfl, hV3.set _ ⟨hs3.1, hs3.2.1, ⟨Int.natCast_nonneg _, Int.le_refl _⟩⟩, by simp <;> omega, by simp <;> omega⟩
        by_cases h7 : c = 7
        · rw [if_pos h7, put_ok _ (by omega)]
          simp only [obs]
          have hV5 : V (q ++ [⟨1, [], false, false, (0, 0)⟩]) := h1.app (hsp q)
          obtain ⟨s5, e5, hs5⟩ := hV5.get (i := (q.length : Int)) (by omega) (by simp <;> omega)
          rw [e5]
          simp only [obs]
          exact fin _ (hV5.set _ ⟨hs5.1, ⟨Int.natCast_nonneg _, by show (p.length : Int) ≤ _; simp; omega⟩, ⟨Int.natCast_nonneg _, by show (p.length : Int) ≤ _; simp; omega⟩⟩) (by simp <;> omega) (by simp)
        · rw [if_neg h7]
          simp only [obs]
          exact fin q h1 (by omega) (by omega)
theorem comp_all : ∀ n, CompAll n
  | 0 => fun x _ _ h => by have := wt_pos x; omega
  | n + 1 => comp_n n (comp_all n)
theorem comp_ok {x : T_pc} {j : Nat} (hx : WF j x) {k : Nat} {t : T_pc} {p : List T_regex_step} (hk : 4 * wt x ≤ k) (hV : V p) (hb : p.length + 4 * wt x ≤ 1000000) : Comp t p (wt x) (regex_Expr_compile.f k ⟨t, p⟩ x) :=
  comp_all _ x j hx (Nat.le_refl _) k t p hk hV hb
end Go.Proofs.YtafnenafbognkaaGreatDoor
namespace Go.Proofs.YtafnenafbognkaaGreatDoor
open Sp
set_option maxRecDepth 100000
set_option maxHeartbeats 4000000
def lastStep : T_regex_step := ⟨4, [], false, false, (0, 0)⟩
def Val (p : List T_regex_step) : Prop := (∃ q, V q ∧ p = q ++ [lastStep]) ∧ p.length ≤ 1000000
theorem Val.at {p : List T_regex_step} (h : Val p) {i : Int} (h0 : 0 ≤ i) (h1 : i < p.length) :
    ∃ s, lat p i = some s ∧ (s.op = 1 → (0 ≤ s.to_.1 ∧ s.to_.1 < p.length) ∧ (0 ≤ s.to_.2 ∧ s.to_.2 < p.length)) ∧ (s.op = 0 ∨ s.op = 2 ∨ s.op = 3 → i + 1 < p.length) := by
  obtain ⟨⟨q, hV, rfl⟩, _⟩ := h
  have hl : (q ++ [lastStep]).length = q.length + 1 := by simp
  rw [hl] at h1 ⊢
  by_cases hi : i < q.length
  · obtain ⟨s, e, hs⟩ := hV.get h0 hi
    refine ⟨s, ?_, fun _ => ⟨⟨hs.2.1.1, by have := hs.2.1.2; omega⟩, ⟨hs.2.2.1, by have := hs.2.2.2; omega⟩⟩, fun _ => by omega⟩
    unfold lat at e ⊢
    rw [if_pos h0] at e ⊢
    rw [List.getElem?_append_left (by omega)]
    exact e
  · refine ⟨lastStep, ?_, fun h => absurd h (by decide), fun h => absurd h (by decide)⟩
    unfold lat
    rw [if_pos h0, List.getElem?_append_right (by omega), show i.toNat - q.length = 0 by omega]
    rfl
theorem Val.spans {p : List T_regex_step} (h : Val p) : ∀ s ∈ p, s.spans.length ≤ 1000000 := by
  obtain ⟨⟨q, hV, rfl⟩, _⟩ := h
  intro s hs
  rcases List.mem_append.1 hs with hs | hs
  · exact (hV s hs).1.2
  · simp at hs; subst hs; exact Nat.zero_le _
theorem Val.pos {p : List T_regex_step} (h : Val p) : 0 < p.length := by
  obtain ⟨⟨q, _, rfl⟩, _⟩ := h
  simp
def cf : List Bool → Nat
  | [] => 0
  | b :: l => (if b then 0 else 1) + cf l
theorem cf_set : ∀ {l : List Bool} {i : Nat}, l[i]? = some false → cf (l.set i true) + 1 = cf l
  | [], _, h => by simp at h
  | b :: l, 0, h => by
    simp at h; subst h
    simp [cf]; omega
  | b :: l, i + 1, h => by
    simp only [List.getElem?_cons_succ] at h
    have := cf_set h
    simp only [List.set_cons_succ, cf]
    omega
theorem cf_le : ∀ l : List Bool, cf l ≤ l.length
  | [] => Nat.le_refl _
  | b :: l => by simp only [cf, List.length_cons]; have := cf_le l; split <;> omega
theorem add_ok (e : T_regex_Expr) (hV : Val e.prog) (i n : Int) : ∀ (k : Nat) (set : List Bool) (a : Int), set.length = e.prog.length → 0 ≤ a → a < e.prog.length → cf set < k →
    ∃ s', regex_Expr_add.f k (some e) set a i n = some s' ∧ s'.length = set.length ∧ cf s' ≤ cf set
  | 0, _, _, _, _, _, h => by omega
  | k + 1, set, a, hl, h0, h1, hk => by
    rw [regex_Expr_add.f]
    obtain ⟨b, eb, eb2⟩ := lat_lt (l := set) h0 (by omega)
    rw [eb]
    simp only [obs]
    have hlen : e.prog.length ≤ 1000000 := hV.2
    by_cases hb : b = true
    · rw [if_pos hb]
      exact ⟨set, rfl, rfl, Nat.le_refl _⟩
    · rw [if_neg hb]
      obtain ⟨s, es, hs1, hs2⟩ := hV.at h0 h1
      rw [es]
      simp only [obs]
      have hbf : set[a.toNat]? = some false := by rw [eb2]; simpa using hb
      have hc := cf_set hbf
      have hl1 : (set.set a.toNat true).length = e.prog.length := by rw [List.length_set]; exact hl
      split
      · rename_i ho
        obtain ⟨⟨t1, t2⟩, t3, t4⟩ := hs1 ho
        obtain ⟨s1, e1, l1, c1'⟩ := add_ok e hV i n k (set.set a.toNat true) s.to_.1 hl1 t1 t2 (by omega)
        rw [e1]
        simp only [obs]
        obtain ⟨s2, e2, l2, c2⟩ := add_ok e hV i n k s1 s.to_.2 (by rw [l1]; exact hl1) t3 t4 (by omega)
        rw [e2]
        exact ⟨s2, rfl, by rw [l2, l1, List.length_set], by omega⟩
      · have self : ∃ s', (some (set.set a.toNat true) : Option (List Bool)) = some s' ∧ s'.length = set.length ∧ cf s' ≤ cf set := ⟨_, rfl, List.length_set .., by omega⟩
        have go : (s.op = 0 ∨ s.op = 2 ∨ s.op = 3) → ∃ s', ((regex_Expr_add.f k (some e) (set.set a.toNat true) (i64 (a + 1)) i n).bind fun y => some y) = some s' ∧ s'.length = set.length ∧ cf s' ≤ cf set := by
          intro ho
          have := hs2 ho
          rw [i64_id (by omega) (by omega)]
          obtain ⟨s1, e1, l1, c1'⟩ := add_ok e hV i n k (set.set a.toNat true) (a + 1) hl1 (by omega) this (by omega)
          rw [e1]
          exact ⟨s1, rfl, by rw [l1, List.length_set], by omega⟩
        split
        · rename_i ho
          split
          · exact go (.inr (.inl ho))
          · exact self
        · split
          · rename_i ho
            split
            · exact go (.inr (.inr ho))
            · exact self
          · exact self
theorem takes_l0 (s : T_regex_step) (n : Int) (hb : s.spans.length ≤ 1000000000) : ∀ (k j : Nat), j ≤ s.spans.length → s.spans.length < k + j → ∃ r, regex_step_takes.l0 k s n (j : Int) = some r
  | 0, _, _, h => by omega
  | k + 1, j, hj, hk => by
    rw [regex_step_takes.l0]
    by_cases hlt : j < s.spans.length
    · rw [if_pos (by omega), lat_nat, List.getElem?_eq_getElem hlt]
      simp only [obs]
      rw [i64_id (by omega) (by omega), show ((j : Int) + 1) = ((j + 1 : Nat) : Int) by omega]
      obtain ⟨r, e⟩ := takes_l0 s n hb k (j + 1) (by omega) (by omega)
      split
      · split
        · exact ⟨_, rfl⟩
        · exact ⟨r, e⟩
      · exact ⟨r, e⟩
    · rw [if_neg (by omega)]
      exact ⟨_, rfl⟩
theorem takes_ok {k : Nat} {s : T_regex_step} {n : Int} (hb : s.spans.length ≤ 1000000000) (hk : s.spans.length < k) : ∃ r, regex_step_takes.f k s n = some r := by
  rw [regex_step_takes.f]
  split
  · exact ⟨_, rfl⟩
  · obtain ⟨r, e⟩ := takes_l0 s n hb k 0 (Nat.zero_le _) (by omega)
    rw [show ((0 : Nat) : Int) = 0 from rfl] at e
    rw [e]
    cases r <;> exact ⟨_, rfl⟩
theorem match_l1 (e : T_regex_Expr) (hV : Val e.prog) (hsp : ∀ s ∈ e.prog, s.spans.length ≤ 1000000) (l : List Int) (i : Nat) (hi : i < l.length) (hll : l.length ≤ 1000000) (set : List Bool) (hset : set.length = e.prog.length) :
    ∀ (k j : Nat) (nx : List Bool), j ≤ set.length → set.length + 1000000 + 10 + e.prog.length < k + j → nx.length = e.prog.length →
      ∃ r, regex_Expr_Match.l1 k (some e) l e (i : Int) set nx (j : Int) = some r ∧ r.length = e.prog.length
  | 0, j, _, hj, h, _ => by omega
  | k + 1, j, nx, hj, hk, hn => by
    have hlen : e.prog.length ≤ 1000000 := hV.2
    rw [regex_Expr_Match.l1]
    by_cases hlt : j < set.length
    · rw [if_pos (by omega), lat_nat, List.getElem?_eq_getElem hlt]
      simp only [obs]
      rw [i64_id (n := (j : Int) + 1) (by omega) (by omega), show ((j : Int) + 1) = ((j + 1 : Nat) : Int) by omega]
      have go : ∀ nx' : List Bool, nx'.length = e.prog.length → ∃ r, regex_Expr_Match.l1 k (some e) l e (i : Int) set nx' ((j + 1 : Nat) : Int) = some r ∧ r.length = e.prog.length := fun nx' h => match_l1 e hV hsp l i hi hll set hset k (j + 1) nx' (by omega) (by omega) h
      split
      · obtain ⟨s, es, hs1, hs2⟩ := hV.at (i := (j : Int)) (by omega) (by omega)
        rw [es]
        simp only [obs]
        split
        · rename_i ho
          rw [lat_nat, List.getElem?_eq_getElem hi]
          simp only [obs]
          have hsm : s ∈ e.prog := by
            have := (lat_ok es).2.2
            exact List.mem_of_getElem? this
          obtain ⟨b, eb⟩ := takes_ok (k := k) (s := s) (n := l[i]) (by have := hsp s hsm; omega) (by have := hsp s hsm; omega)
          rw [eb]
          simp only [obs]
          split
          · have hj1 := hs2 (.inl ho)
            obtain ⟨nx', e1, h1, _⟩ := add_ok e hV (i64 ((i : Int) + 1)) (l.length : Int) k nx ((j + 1 : Nat) : Int) hn (by omega) (by omega) (by have := cf_le nx; omega)
            rw [e1]
            exact go nx' (by rw [h1, hn])
          · exact go nx hn
        · exact go nx hn
      · exact go nx hn
    · rw [if_neg (by omega)]
      exact ⟨nx, rfl, hn⟩
theorem made_ok (n : Nat) (h : n ≤ 1000000) : made 1 false (n : Int) = some (List.replicate n false) := by
  unfold made
  rw [if_pos]
  · simp
  · refine ⟨by omega, by omega, ?_⟩
    unfold Go.maxLen; omega
theorem match_l0 (e : T_regex_Expr) (hV : Val e.prog) (hsp : ∀ s ∈ e.prog, s.spans.length ≤ 1000000) (l : List Int) (hll : l.length ≤ 1000000) :
    ∀ (k i : Nat) (set : List Bool), i ≤ l.length → l.length + 2000000 + 10 + e.prog.length < k + i → set.length = e.prog.length → ∃ b, regex_Expr_Match.l0 k (some e) l e set (i : Int) = some (.inl b)
  | 0, _, _, _, h, _ => by omega
  | k + 1, i, set, hi, hk, hs => by
    have hlen : e.prog.length ≤ 1000000 := hV.2
    have hpos := hV.pos
    rw [regex_Expr_Match.l0]
    obtain ⟨s1, e1, h1, _⟩ := add_ok e hV (i : Int) (l.length : Int) k set 0 hs (Int.le_refl _) (by omega) (by have := cf_le set; omega)
    rw [e1]
    simp only [obs]
    rw [i64_id (n := (e.prog.length : Int) - 1) (by omega) (by omega)]
    obtain ⟨b, eb, _⟩ := lat_lt (l := s1) (j := (e.prog.length : Int) - 1) (by omega) (by omega)
    rw [eb]
    simp only [obs]
    split
    · exact ⟨_, rfl⟩
    · split
      · exact ⟨_, rfl⟩
      · rename_i hne
        rw [made_ok _ hlen]
        simp only [obs]
        obtain ⟨nx, e2, h2⟩ := match_l1 e hV hsp l i (by omega) hll s1 (by rw [h1, hs]) k 0 (List.replicate e.prog.length false) (Nat.zero_le _) (by rw [h1, hs]; omega) (by simp)
        rw [show ((0 : Nat) : Int) = 0 from rfl] at e2
        rw [e2]
        simp only [obs]
        rw [i64_id (by omega) (by omega), show ((i : Int) + 1) = ((i + 1 : Nat) : Int) by omega]
        exact match_l0 e hV hsp l hll k (i + 1) nx (by omega) (by omega) h2
theorem match_ok {k : Nat} (e : T_regex_Expr) (hV : Val e.prog) (hsp : ∀ s ∈ e.prog, s.spans.length ≤ 1000000) (l : List Int) (hll : l.length ≤ 1000000) (hk : 5000000 ≤ k) : ∃ b, regex_Expr_Match.f k (some e) l = some b := by
  have hlen : e.prog.length ≤ 1000000 := hV.2
  have hpos := hV.pos
  rw [regex_Expr_Match.f]
  simp only [Option.isNone_some, Bool.false_eq_true, if_false, obs]
  rw [if_neg (by omega), made_ok _ hlen]
  simp only [obs]
  obtain ⟨b, eb⟩ := match_l0 e hV hsp l hll k 0 (List.replicate e.prog.length false) (Nat.zero_le _) (by omega) (by simp)
  rw [show ((0 : Nat) : Int) = 0 from rfl] at eb
  rw [eb]
  exact ⟨b, rfl⟩
end Go.Proofs.YtafnenafbognkaaGreatDoor
namespace Go.Proofs.YtafnenafbognkaaGreatDoor
open Sp
set_option maxRecDepth 100000
set_option maxHeartbeats 4000000
abbrev B (l : List UInt8) : ByteArray := ⟨l.toArray⟩
def dec (n : Nat) : List UInt8 := if n < 10 then [UInt8.ofNat (48 + n)] else dec (n / 10) ++ [UInt8.ofNat (48 + n % 10)]
termination_by n
decreasing_by omega
def ints (l : List UInt8) : List Int := l.map fun c => (c.toNat : Int)
theorem ofB_go : ∀ (l : List UInt8) (a : ByteArray), (ints l).foldl (fun r n => r.push (UInt8.ofNat n.toNat)) a = ⟨a.data ++ l.toArray⟩
  | [], a => by simp [ints]
  | c :: l, a => by
    simp only [ints, List.map_cons, List.foldl_cons]
    have h := ofB_go l (a.push (UInt8.ofNat ((c.toNat : Int)).toNat))
    rw [ints] at h
    rw [h]
    have hc : UInt8.ofNat ((c.toNat : Int)).toNat = c := by simp
    rw [hc]
    congr 1
    simp [ByteArray.push]
theorem ofB_ints (l : List UInt8) : ofB (ints l) = B l := by
  unfold ofB
  rw [ofB_go]
  congr 1
  show #[] ++ l.toArray = l.toArray
  simp
theorem dec_len : ∀ (m n : Nat), n < 10 ^ (m + 1) → (dec n).length ≤ m + 1
  | 0, n, h => by
    rw [dec, if_pos (by simpa using h)]
    simp
  | m + 1, n, h => by
    rw [dec]
    split
    · simp
    · have := dec_len m (n / 10) (by rw [Nat.pow_succ] at h; omega)
      simp; omega
theorem dec_pos (n : Nat) : 0 < (dec n).length := by
  rw [dec]; split <;> simp
theorem digs_at : ∀ d : Nat, d < 10 → lat digs (d : Int) = some (48 + d : Int) := by
  have h : ∀ d : Fin 10, lat digs ((d.val : Nat) : Int) = some (48 + (d.val : Nat) : Int) := by decide
  intro d hd
  exact h ⟨d, hd⟩
theorem u8_dig (d : Nat) (h : d < 10) : ((UInt8.ofNat (48 + d)).toNat : Int) = 48 + d := by
  rw [UInt8.toNat_ofNat']
  omega
theorem u64_id {n : Int} (h0 : 0 ≤ n) (h1 : n < 18446744073709551616) : u64 n = n := by
  unfold u64 Go.IntKind.wrap
  simp only [Go.IntKind.signed, Go.IntKind.bits]
  simp
  omega
theorem text_l0 : ∀ (k n i : Nat) (l : List Int), (dec n).length < k → n < 9223372036854775808 → l.length = 20 → (dec n).length ≤ i → i ≤ 20 →
    ∃ l', octet_Text.l0 k (n : Int) (i : Int) l = some (((i - (dec n).length : Nat) : Int), l') ∧ l'.length = 20 ∧ l'.drop (i - (dec n).length) = ints (dec n) ++ l.drop i
  | 0, _, _, _, h, _, _, _, _ => by omega
  | k + 1, n, i, l, hk, hn, hl, hd, hi => by
    rw [octet_Text.l0]
    have hp := dec_pos n
    have hm : ((n : Int).tmod 10) = ((n % 10 : Nat) : Int) := rfl
    have hq : ((n : Int).tdiv 10) = ((n / 10 : Nat) : Int) := rfl
    rw [hm, hq, digs_at (n % 10) (Nat.mod_lt n (by decide))]
    simp only [obs]
    rw [i64_id (by omega) (by omega), show (i : Int) - 1 = ((i - 1 : Nat) : Int) by omega, lat_nat, List.getElem?_eq_getElem (by omega)]
    simp only [obs]
    rw [u64_id (by omega) (by omega), Int.toNat_natCast]
    have hset : (l.set (i - 1) (48 + ((n % 10 : Nat) : Int))).drop (i - 1) = (48 + ((n % 10 : Nat) : Int)) :: l.drop i := by
      rw [List.drop_set, if_neg (by omega), Nat.sub_self, List.drop_eq_getElem_cons (show i - 1 < l.length by omega), List.set_cons_zero, show i - 1 + 1 = i by omega]
    by_cases hz : n / 10 = 0
    · rw [if_pos (by omega)]
      have hdec : dec n = [UInt8.ofNat (48 + n)] := by rw [dec, if_pos (by omega)]
      refine ⟨l.set (i - 1) (48 + ((n % 10 : Nat) : Int)), ?_, ?_, ?_⟩
      · rw [hdec]; rfl
      · rw [List.length_set]; exact hl
      · rw [hdec]
        simp only [List.length_singleton]
        rw [hset, show n % 10 = n by omega]
        simp only [ints, List.map_cons, List.map_nil, List.singleton_append]
        rw [u8_dig n (by omega)]
    · rw [if_neg (by omega)]
      have hdec : dec n = dec (n / 10) ++ [UInt8.ofNat (48 + n % 10)] := by rw [dec, if_neg (by omega)]
      have hlen : (dec n).length = (dec (n / 10)).length + 1 := by rw [hdec]; simp
      obtain ⟨l', e, h1, h2⟩ := text_l0 k (n / 10) (i - 1) (l.set (i - 1) (48 + ((n % 10 : Nat) : Int))) (by omega) (by omega) (by rw [List.length_set]; exact hl) (by omega) (by omega)
      refine ⟨l', ?_, h1, ?_⟩
      · rw [e, hlen]
        congr 3
        omega
      · rw [hlen, show i - ((dec (n / 10)).length + 1) = i - 1 - (dec (n / 10)).length by omega, h2, hset, hdec]
        simp only [ints, List.map_append, List.map_cons, List.map_nil, List.append_assoc, List.singleton_append]
        rw [u8_dig (n % 10) (Nat.mod_lt n (by decide))]
theorem text_ok {k n : Nat} (hk : 20 < k) (hn : n < 9223372036854775808) : octet_Text.f k (n : Int) = some (B (dec n)) := by
  have hd := dec_len 18 n (by omega)
  obtain ⟨l', e, h1, h2⟩ := text_l0 k n 20 [0, 0, 0, 0, 0, 0, 0, 0, 0, 0, 0, 0, 0, 0, 0, 0, 0, 0, 0, 0] (by omega) hn rfl (by omega) (Nat.le_refl _)
  rw [octet_Text.f, if_neg (by omega), u64_id (by omega) (by omega)]
  simp only [obs]
  rw [show (20 : Int) = ((20 : Nat) : Int) from rfl, e]
  simp only [obs]
  rw [if_neg (by omega)]
  have hc : cutL l' ((20 - (dec n).length : Nat) : Int) = some (ints (dec n)) := by
    unfold cutL
    rw [if_pos ⟨by omega, by omega⟩, Int.toNat_natCast, h2]
    simp
  rw [hc]
  simp only [obs, ofB_ints]
theorem value_l0 (d : Nat) (hd : d < 10) : ∀ (k j : Nat), j ≤ d → 16 < k + j → octet_value.l0 k ((48 + d : Nat) : Int) (j : Int) = some (.inl (d : Int))
  | 0, j, hj, hk => by omega
  | k + 1, j, hj, hk => by
    rw [octet_value.l0, if_pos (by omega), digs_at j (by omega)]
    simp only [obs]
    by_cases e : j = d
    · subst e
      rw [if_pos (by omega)]
      have : u8 (j : Int) = (j : Int) := by
        unfold u8 Go.IntKind.wrap
        simp only [Go.IntKind.signed, Go.IntKind.bits]
        simp
        omega
      rw [this]
    · rw [if_neg (by omega), i64_id (by omega) (by omega), show (j : Int) + 1 = ((j + 1 : Nat) : Int) by omega]
      exact value_l0 d hd k (j + 1) (by omega) (by omega)
theorem value_ok {k d : Nat} (hk : 16 < k) (hd : d < 10) : octet_value.f k ((48 + d : Nat) : Int) = some (d : Int) := by
  rw [octet_value.f]
  have h := value_l0 d hd k 0 (Nat.zero_le _) (by omega)
  rw [show ((0 : Nat) : Int) = 0 from rfl] at h
  rw [h]; rfl
def dig (c : UInt8) : Prop := 48 ≤ c.toNat ∧ c.toNat ≤ 57
def nv (a : Nat) (l : List UInt8) : Nat := l.foldl (fun a c => 10 * a + (c.toNat - 48)) a
theorem nv_le : ∀ (l : List UInt8) (a : Nat), a ≤ nv a l
  | [], a => Nat.le_refl _
  | c :: l, a => by
    have := nv_le l (10 * a + (c.toNat - 48))
    simp only [nv, List.foldl_cons] at this ⊢
    omega
theorem nv_dec (n : Nat) : nv 0 (dec n) = n := by
  induction n using Nat.strongRecOn with
  | ind n ih =>
    rw [dec]
    split
    · rename_i h
      simp only [nv, List.foldl_cons, List.foldl_nil]
      have := u8_dig n h
      omega
    · have h1 := ih (n / 10) (by omega)
      unfold nv at h1 ⊢
      rw [List.foldl_append, h1]
      simp only [List.foldl_cons, List.foldl_nil]
      have := u8_dig (n % 10) (Nat.mod_lt n (by decide))
      omega
theorem dec_dig (n : Nat) : ∀ c ∈ dec n, dig c := by
  induction n using Nat.strongRecOn with
  | ind n ih =>
    rw [dec]
    split
    · rename_i h
      intro c hc
      rw [List.mem_singleton] at hc; subst hc
      have := u8_dig n h
      unfold dig; omega
    · intro c hc
      rcases List.mem_append.1 hc with hc | hc
      · exact ih (n / 10) (by omega) c hc
      · rw [List.mem_singleton] at hc; subst hc
        have := u8_dig (n % 10) (Nat.mod_lt n (by decide))
        unfold dig; omega
theorem sat_B (l : List UInt8) (i : Nat) : sat (B l) (i : Int) = (l[i]?).map fun c => (c.toNat : Int) := by
  unfold sat
  rw [if_pos (by omega), Int.toNat_natCast]
  congr 1
  by_cases h : i < l.length
  · have h' : i < (B l).size := by simp [B, ByteArray.size, h]
    rw [getElem?_pos (B l) i h', List.getElem?_eq_getElem h]
    rfl
  · have h' : ¬ i < (B l).size := by simp [B, ByteArray.size]; omega
    rw [getElem?_neg (B l) i h', List.getElem?_eq_none (by omega)]
theorem int_l0 (l : List UInt8) (hd : ∀ c ∈ l, dig c) (hl : l.length ≤ 1000000) : ∀ (k a i : Nat), i ≤ l.length → l.length + 20 < k + i → a ≤ 42949672959 →
    (nv a (l.drop i) ≤ 4294967295 → octet_Int.l0 k (B l) (a : Int) (i : Int) = some (.inr ((nv a (l.drop i) : Nat) : Int))) ∧
    (octet_Int.l0 k (B l) (a : Int) (i : Int) = some (.inl (0, false)) ∨ ∃ m : Nat, m ≤ 42949672959 ∧ octet_Int.l0 k (B l) (a : Int) (i : Int) = some (.inr (m : Int)))
  | 0, _, _, h, h2, _ => by omega
  | k + 1, a, i, hi, hk, ha => by
    rw [octet_Int.l0]
    have hsz : (B l).size = l.length := by simp [B, ByteArray.size]
    rw [hsz]
    by_cases hlt : i < l.length
    · rw [if_pos (by omega), sat_B, List.getElem?_eq_getElem hlt]
      simp only [Option.map_some, obs]
      obtain ⟨d1, d2⟩ := hd l[i] (List.getElem_mem hlt)
      rw [show ((l[i].toNat : Nat) : Int) = ((48 + (l[i].toNat - 48) : Nat) : Int) by omega, value_ok (by omega) (by omega)]
      simp only [obs]
      rw [if_neg (by omega)]
      have hdr : l.drop i = l[i] :: l.drop (i + 1) := List.drop_eq_getElem_cons hlt
      have hnv : nv a (l.drop i) = nv (10 * a + (l[i].toNat - 48)) (l.drop (i + 1)) := by rw [hdr]; rfl
      rw [hnv]
      have hle := nv_le (l.drop (i + 1)) (10 * a + (l[i].toNat - 48))
      by_cases hbig : (a : Int) > 4294967295
      · rw [if_pos hbig]
        exact ⟨fun h => by omega, .inl rfl⟩
      · rw [if_neg hbig]
        rw [i64_id (n := 10 * (a : Int)) (by omega) (by omega), i64_id (n := (((l[i].toNat - 48 : Nat)) : Int)) (by omega) (by omega), i64_id (by omega) (by omega), i64_id (by omega) (by omega)]
        rw [show 10 * (a : Int) + ((l[i].toNat - 48 : Nat) : Int) = ((10 * a + (l[i].toNat - 48) : Nat) : Int) by omega, show (i : Int) + 1 = ((i + 1 : Nat) : Int) by omega]
        exact int_l0 l hd hl k (10 * a + (l[i].toNat - 48)) (i + 1) (by omega) (by omega) (by omega)
    · rw [if_neg (by omega)]
      have hdr : l.drop i = [] := List.drop_eq_nil_of_le (by omega)
      rw [hdr]
      exact ⟨fun _ => rfl, .inr ⟨a, ha, rfl⟩⟩
theorem B_inj {a b : List UInt8} (h : B a = B b) : a = b := by
  have := congrArg ByteArray.data h
  simpa [B] using this
theorem int_ok {k : Nat} {l : List UInt8} (hd : ∀ c ∈ l, dig c) (hne : l ≠ []) (hl : l.length ≤ 1000000) (hk : l.length + 30 < k) :
    ∃ n ok, octet_Int.f k (B l) = some (n, ok) ∧ (ok = true → ∃ m : Nat, n = m ∧ m ≤ 4294967295 ∧ l = dec m) := by
  obtain ⟨_, h⟩ := int_l0 l hd hl k 0 0 (Nat.zero_le _) (by omega) (by omega)
  rw [octet_Int.f]
  rw [show ((0 : Nat) : Int) = 0 from rfl] at h
  rcases h with h | ⟨m, hm, h⟩
  · rw [h]
    exact ⟨0, false, rfl, fun h => by cases h⟩
  · rw [h]
    simp only [obs]
    have hne' : ¬ B l = ⟨#[]⟩ := fun e => hne (B_inj (b := []) e)
    rw [if_neg hne']
    by_cases hbig : (m : Int) > 4294967295
    · rw [if_pos hbig]
      exact ⟨0, false, rfl, fun h => by cases h⟩
    · rw [if_neg hbig, text_ok (by omega) (by omega)]
      simp only [obs]
      by_cases he : B (dec m) = B l
      · rw [if_pos he]
        exact ⟨m, true, rfl, fun _ => ⟨m, rfl, by omega, (B_inj he).symm⟩⟩
      · rw [if_neg he]
        exact ⟨0, false, rfl, fun h => by cases h⟩
theorem int_dec {k n : Nat} (hn : n ≤ 4294967295) (hk : 100 < k) : octet_Int.f k (B (dec n)) = some ((n : Int), true) := by
  have hlen := dec_len 18 n (by omega)
  have hp := dec_pos n
  obtain ⟨h, _⟩ := int_l0 (dec n) (dec_dig n) (by omega) k 0 0 (Nat.zero_le _) (by omega) (by omega)
  rw [List.drop_zero, nv_dec] at h
  rw [octet_Int.f]
  rw [show ((0 : Nat) : Int) = 0 from rfl] at h
  rw [h hn]
  simp only [obs]
  have hne' : ¬ B (dec n) = ⟨#[]⟩ := fun e => by
    have := B_inj (b := []) e
    rw [this] at hp
    exact absurd hp (by decide)
  rw [if_neg hne', if_neg (by omega), text_ok (by omega) (by omega)]
  simp
end Go.Proofs.YtafnenafbognkaaGreatDoor
namespace Go.Proofs.YtafnenafbognkaaGreatDoor
open Sp
set_option maxRecDepth 100000
set_option maxHeartbeats 4000000
def punctI (r : Int) : Bool := r == 124 || r == 40 || r == 41 || r == 91 || r == 93 || r == 94 || r == 36 || r == 46 || r == 42 || r == 43 || r == 63 || r == 45 || r == 44
def numOf (l : List UInt8) : Option Nat := if nv 0 l ≤ 4294967295 ∧ dec (nv 0 l) = l then some (nv 0 l) else none
def flushS (pend : List UInt8) (acc : List T_sg) : Option (List T_sg) :=
  if pend = [] then some acc else (numOf pend).map fun m => acc ++ [⟨0, (m : Int), true⟩]
def lexS : List UInt8 → List UInt8 → List T_sg → Option (List T_sg)
  | [], pend, acc => flushS pend acc
  | c :: r, pend, acc =>
    if 48 ≤ c.toNat ∧ c.toNat ≤ 57 then lexS r (pend ++ [c]) acc
    else (flushS pend acc).bind fun acc' =>
      if c.toNat = 32 ∨ c.toNat = 95 then lexS r [] (acc' ++ [⟨32, 0, false⟩])
      else if punctI c.toNat then lexS r [] (acc' ++ [⟨(c.toNat : Int), 0, false⟩])
      else none
theorem B_size (l : List UInt8) : (B l).size = l.length := by simp [B, ByteArray.size]
theorem B_get (l : List UInt8) (p : Nat) (h : p < l.length) : (B l).get! p = l[p] := by
  have h' : p < (B l).size := by rw [B_size]; exact h
  show (B l).data[p]! = _
  simp [B, h]
theorem rune_low (l : List UInt8) (p : Nat) (h : p < l.length) (hc : l[p].toNat < 128) : runeAt (B l) p = (l[p].toNat : Int) ∧ runeW (B l) p = 1 := by
  unfold runeAt runeW Go.Utf8.decode
  simp only [Nat.add_zero, B_get l p h]
  rw [if_pos hc]
  exact ⟨rfl, rfl⟩
theorem rune_high (l : List UInt8) (p : Nat) (h : p < l.length) (hc : ¬ l[p].toNat < 128) : 128 ≤ runeAt (B l) p := by
  unfold runeAt Go.Utf8.decode
  simp only [Nat.add_zero, B_get l p h]
  rw [if_neg hc]
  split
  · split
    · rename_i hx
      show (128 : Int) ≤ ((_ : Nat) : Int)
      exact Int.ofNat_le.2 hx
    · simp [Go.Utf8.runeError]
  · split
    · split
      · rename_i hx
        simp only [Bool.and_eq_true, decide_eq_true_eq] at hx
        have h1 := hx.1
        show (128 : Int) ≤ ((_ : Nat) : Int)
        exact Int.ofNat_le.2 (Nat.le_trans (by decide) h1)
      · simp [Go.Utf8.runeError]
    · split
      · split
        · rename_i hx
          simp only [Bool.and_eq_true, decide_eq_true_eq] at hx
          have h1 := hx.1
          show (128 : Int) ≤ ((_ : Nat) : Int)
          exact Int.ofNat_le.2 (Nat.le_trans (by decide) h1)
        · simp [Go.Utf8.runeError]
      · simp [Go.Utf8.runeError]
theorem B_extract (l : List UInt8) (a b : Nat) : (B l).extract a b = B ((l.take b).drop a) := by
  apply ByteArray.ext
  rw [ByteArray.data_extract]
  simp [B, List.drop_take]
theorem u32_id {n : Int} (h0 : 0 ≤ n) (h1 : n < 4294967296) : u32 n = n := by
  unfold u32 Go.IntKind.wrap
  simp only [Go.IntKind.signed, Go.IntKind.bits]
  simp
  omega
def from_ (p : Nat) (pend : List UInt8) : Int := if pend = [] then -1 else ((p - pend.length : Nat) : Int)
theorem flush_eq {k : Nat} {l pend : List UInt8} {acc : List T_sg} {p : Nat} (hp : p ≤ l.length) (hl : l.length ≤ 100000) (hpe : (l.take p).drop (p - pend.length) = pend) (hlen : pend.length ≤ p) (hd : ∀ c ∈ pend, dig c) (hk : 200000 ≤ k) (ha : acc.length ≤ 1000000) :
    ∃ ok acc', regex_signs_1.f k (p : Int) (from_ p pend) (B l) acc = some (ok, -1, acc') ∧ (ok = true → flushS pend acc = some acc') ∧ (ok = false → flushS pend acc = none) := by
  rw [regex_signs_1.f]
  by_cases h0 : pend = []
  · subst h0
    rw [if_pos (by simp [from_])]
    exact ⟨true, acc, by simp [from_], fun _ => by simp [flushS], fun h => by cases h⟩
  · have hf : from_ p pend = ((p - pend.length : Nat) : Int) := by simp [from_, h0]
    rw [hf, if_neg (by omega)]
    have hs : scutLR (B l) ((p - pend.length : Nat) : Int) (p : Int) = some (B pend) := by
      unfold scutLR
      rw [if_pos ⟨by omega, by omega, by rw [B_size]; omega⟩, Int.toNat_natCast, Int.toNat_natCast, B_extract, hpe]
    rw [hs]
    simp only [obs]
    obtain ⟨n, ok, e, h1⟩ := int_ok (k := k) hd h0 (by omega) (by omega)
    rw [e]
    simp only [obs]
    have hap : Sp.app 12 acc [⟨0, u32 n, true⟩] = some (acc ++ [⟨0, u32 n, true⟩]) := app_small (by simp; omega) (by decide)
    rw [hap]
    refine ⟨ok, _, rfl, fun hok => ?_, fun hok => ?_⟩
    · obtain ⟨m, rfl, hm, rfl⟩ := h1 hok
      rw [u32_id (by omega) (by omega)]
      simp only [flushS, if_neg h0, numOf, nv_dec]
      simp [hm]
    · simp only [flushS, if_neg h0, numOf]
      rw [if_neg]
      · rfl
      · rintro ⟨hm, hdec⟩
        have := int_dec (k := k) hm (by omega)
        rw [hdec, e] at this
        rw [hok] at this
        cases this
def fin (K : Nat) (x : ByteArray) (o : Option (Sum ((List T_sg) × Bool) (Nat × Int × (List T_sg)))) : Option ((List T_sg) × Bool) :=
  o.bind fun o => match o with | .inl r => some r | .inr (_, n19, l20) => ((regex_signs_1.f K (x.size : Int) n19 x l20).bind fun y367 => (some (y367.2.2, y367.1)))
def LexOk (l pend : List UInt8) (p : Nat) (acc : List T_sg) (o : Option ((List T_sg) × Bool)) : Prop :=
  ∃ sg ok, o = some (sg, ok) ∧ (ok = true → lexS (l.drop p) pend acc = some sg) ∧ (ok = false → lexS (l.drop p) pend acc = none)
theorem signs_l0 (K : Nat) (hK : 200000 ≤ K) (l : List UInt8) (hl : l.length ≤ 100000) : ∀ (k p : Nat) (pend : List UInt8) (acc : List T_sg), p ≤ l.length → 200000 + l.length < k + p →
    (l.take p).drop (p - pend.length) = pend → pend.length ≤ p → (∀ c ∈ pend, dig c) → acc.length + pend.length ≤ p →
    LexOk l pend p acc (fin K (B l) (regex_signs.l0 k (B l) p (from_ p pend) acc))
  | 0, p, _, _, hp, h, _, _, _, _ => by omega
  | k + 1, p, pend, acc, hp, hk, hpe, hlen, hd, ha => by
    rw [regex_signs.l0, B_size]
    by_cases hlt : p < l.length
    · rw [if_pos hlt]
      have hdr : l.drop p = l[p] :: l.drop (p + 1) := List.drop_eq_getElem_cons hlt
      have htk : l.take (p + 1) = l.take p ++ [l[p]] := by rw [List.take_succ_eq_append_getElem hlt]
      obtain ⟨ok, acc', ef, hf1, hf2⟩ := flush_eq (k := k) hp hl hpe hlen hd (by omega) (by omega) (acc := acc)
      by_cases hdg : 48 ≤ l[p].toNat ∧ l[p].toNat ≤ 57
      · obtain ⟨r1, r2⟩ := rune_low l p hlt (by omega)
        rw [r1, r2, if_pos (by omega), if_pos (by omega)]
        have hfrom : (if from_ p pend < 0 then some ((p : Nat) : Int) else some (from_ p pend)) = some (from_ (p + 1) (pend ++ [l[p]])) := by
          by_cases h0 : pend = []
          · subst h0
            simp [from_]
          · simp only [from_, if_neg h0]
            rw [if_neg (by omega)]
            simp <;> omega
        rw [hfrom]
        simp only [obs]
        have h := signs_l0 K hK l hl k (p + 1) (pend ++ [l[p]]) acc (by omega) (by omega) (by
          rw [htk, List.length_append, List.length_singleton, show p + 1 - (pend.length + 1) = p - pend.length by omega, List.drop_append, hpe, List.length_take]
          congr 1
          rw [show p - pend.length - min p l.length = 0 by omega]; rfl) (by simp; omega) (fun c hc => by
            rcases List.mem_append.1 hc with hc | hc
            · exact hd c hc
            · rw [List.mem_singleton] at hc; subst hc; exact hdg) (by simp; omega)
        obtain ⟨sg, ok2, e, h1, h2⟩ := h
        have hls : lexS (l.drop p) pend acc = lexS (l.drop (p + 1)) (pend ++ [l[p]]) acc := by rw [hdr, lexS, if_pos hdg]
        exact ⟨sg, ok2, e, fun h => by rw [hls]; exact h1 h, fun h => by rw [hls]; exact h2 h⟩
      · have hls : lexS (l.drop p) pend acc = (flushS pend acc).bind fun acc' =>
            if l[p].toNat = 32 ∨ l[p].toNat = 95 then lexS (l.drop (p + 1)) [] (acc' ++ [⟨32, 0, false⟩])
            else if punctI l[p].toNat then lexS (l.drop (p + 1)) [] (acc' ++ [⟨(l[p].toNat : Int), 0, false⟩])
            else none := by rw [hdr, lexS, if_neg hdg]
        have hal : acc'.length ≤ p := by
          cases ok with
          | true =>
            have := hf1 rfl
            unfold flushS at this
            split at this
            · obtain rfl := Option.some.inj this; omega
            · rename_i h0
              obtain ⟨m, _, hm⟩ := Option.map_eq_some_iff.1 this
              rw [← hm]
              have := List.length_pos_iff.2 h0
              simp; omega
          | false =>
            rw [regex_signs_1.f] at ef
            by_cases hneg : from_ p pend < 0
            · rw [if_pos hneg] at ef
              simp at ef
            · rw [if_neg hneg] at ef
              obtain ⟨_, _, ef⟩ := obx ef
              obtain ⟨_, _, ef⟩ := obx ef
              obtain ⟨a, ea, ef⟩ := obx ef
              obtain ⟨_, _, ea⟩ := app_ok ea
              simp only [Option.some.injEq, Prod.mk.injEq] at ef
              rw [← ef.2.2, ea]
              have h0 : pend ≠ [] := by
                rintro rfl
                exact hneg (by simp [from_])
              have := List.length_pos_iff.2 h0
              simp; omega
        -- the loop goes on behind a sign
        have next : ∀ (x : T_sg), lexS (l.drop p) pend acc = (flushS pend acc).bind (fun a => lexS (l.drop (p + 1)) [] (a ++ [x])) → ok = true → LexOk l pend p acc (fin K (B l) ((Sp.app 12 acc' [x]).bind fun a => regex_signs.l0 k (B l) (p + 1) (-1) a)) := by
          intro x hx hok
          have hap : Sp.app 12 acc' [x] = some (acc' ++ [x]) := app_small (by simp; omega) (by decide)
          rw [hap]
          simp only [obs]
          have h := signs_l0 K hK l hl k (p + 1) [] (acc' ++ [x]) (by omega) (by omega) (by simp) (by simp) (fun _ h => by cases h) (by simp; omega)
          obtain ⟨sg, ok2, e, h1, h2⟩ := h
          have hff := hf1 hok
          rw [hff] at hx
          simp only [obs] at hx
          exact ⟨sg, ok2, e, fun h => by rw [hx]; exact h1 h, fun h => by rw [hx]; exact h2 h⟩
        have stop : (lexS (l.drop p) pend acc = none) → LexOk l pend p acc (fin K (B l) (some (.inl ([], false)))) := fun h => ⟨[], false, rfl, fun h => (by cases h), fun _ => h⟩
        have nok : ok = false → lexS (l.drop p) pend acc = none := fun h => by rw [hls, hf2 h]; rfl
        by_cases hlow : l[p].toNat < 128
        · obtain ⟨r1, r2⟩ := rune_low l p hlt hlow
          rw [r1, r2]
          have hblank : (l[p].toNat = 32 ∨ l[p].toNat = 95) → lexS (l.drop p) pend acc = (flushS pend acc).bind (fun a => lexS (l.drop (p + 1)) [] (a ++ [⟨32, 0, false⟩])) := fun h => by
            rw [hls]
            congr 1
            funext a
            rw [if_pos h]
          have hpunct : ¬ (l[p].toNat = 32 ∨ l[p].toNat = 95) → punctI (l[p].toNat : Int) = true → lexS (l.drop p) pend acc = (flushS pend acc).bind (fun a => lexS (l.drop (p + 1)) [] (a ++ [⟨(l[p].toNat : Int), 0, false⟩])) := fun h h' => by
            rw [hls]
            congr 1
            funext a
            rw [if_neg h, if_pos h']
          have hother : ¬ (l[p].toNat = 32 ∨ l[p].toNat = 95) → punctI (l[p].toNat : Int) = false → lexS (l.drop p) pend acc = none := fun h h' => by
            rw [hls]
            cases flushS pend acc with
            | none => rfl
            | some a => simp only [obs, if_neg h, h']; rfl
          generalize hc : l[p].toNat = c at *
          rw [ef]
          simp only [obs]
          have body : LexOk l pend p acc (fin K (B l) (if ok = true then ((if (c : Int) = 32 then (some ((c : Int) == 32)) else (some ((c : Int) == 95))).bind fun b39 => (if b39 = true then ((Sp.app 12 acc' [(T_sg.mk 32 0 false)]).bind fun l49 => (regex_signs.l0 k (B l) (p + 1) (-1) l49)) else (if (c : Int) = 124 then ((Sp.app 12 acc' [(T_sg.mk (c : Int) 0 false)]).bind fun l60 => (regex_signs.l0 k (B l) (p + 1) (-1) l60)) else (if (c : Int) = 40 then ((Sp.app 12 acc' [(T_sg.mk (c : Int) 0 false)]).bind fun l71 => (regex_signs.l0 k (B l) (p + 1) (-1) l71)) else (if (c : Int) = 41 then ((Sp.app 12 acc' [(T_sg.mk (c : Int) 0 false)]).bind fun l82 => (regex_signs.l0 k (B l) (p + 1) (-1) l82)) else (if (c : Int) = 91 then ((Sp.app 12 acc' [(T_sg.mk (c : Int) 0 false)]).bind fun l93 => (regex_signs.l0 k (B l) (p + 1) (-1) l93)) else (if (c : Int) = 93 then ((Sp.app 12 acc' [(T_sg.mk (c : Int) 0 false)]).bind fun l104 => (regex_signs.l0 k (B l) (p + 1) (-1) l104)) else (if (c : Int) = 94 then ((Sp.app 12 acc' [(T_sg.mk (c : Int) 0 false)]).bind fun l115 => (regex_signs.l0 k (B l) (p + 1) (-1) l115)) else (if (c : Int) = 36 then ((Sp.app 12 acc' [(T_sg.mk (c : Int) 0 false)]).bind fun l126 => (regex_signs.l0 k (B l) (p + 1) (-1) l126)) else (if (c : Int) = 46 then ((Sp.app 12 acc' [(T_sg.mk (c : Int) 0 false)]).bind fun l137 => (regex_signs.l0 k (B l) (p + 1) (-1) l137)) else (if (c : Int) = 42 then ((Sp.app 12 acc' [(T_sg.mk (c : Int) 0 false)]).bind fun l148 => (regex_signs.l0 k (B l) (p + 1) (-1) l148)) else (if (c : Int) = 43 then ((Sp.app 12 acc' [(T_sg.mk (c : Int) 0 false)]).bind fun l159 => (regex_signs.l0 k (B l) (p + 1) (-1) l159)) else (if (c : Int) = 63 then ((Sp.app 12 acc' [(T_sg.mk (c : Int) 0 false)]).bind fun l170 => (regex_signs.l0 k (B l) (p + 1) (-1) l170)) else (if (c : Int) = 45 then ((Sp.app 12 acc' [(T_sg.mk (c : Int) 0 false)]).bind fun l181 => (regex_signs.l0 k (B l) (p + 1) (-1) l181)) else (if (c : Int) = 44 then ((Sp.app 12 acc' [(T_sg.mk (c : Int) 0 false)]).bind fun l192 => (regex_signs.l0 k (B l) (p + 1) (-1) l192)) else (some (.inl ([], false)))))))))))))))))) else (some (.inl ([], false))))) := by
            by_cases hok : ok = true
            · rw [if_pos hok]
              by_cases hb : c = 32 ∨ c = 95
              · have e : (if (c : Int) = 32 then (some ((c : Int) == 32)) else (some ((c : Int) == 95))) = some true := by
                  rcases hb with rfl | rfl <;> rfl
                rw [e]
                simp only [obs, if_true]
                exact next _ (hblank hb) hok
              · have e : (if (c : Int) = 32 then (some ((c : Int) == 32)) else (some ((c : Int) == 95))) = some false := by
                  rw [if_neg (by omega)]
                  congr 1
                  simp; omega
                rw [e]
                simp only [obs, Bool.false_eq_true, if_false]
                cases hpp : punctI (c : Int) with
                | true =>
                  have hn := next _ (hpunct hb hpp) hok
                  simp only [punctI, Bool.or_eq_true, beq_iff_eq] at hpp
                  rcases hpp with (((((((((((h | h) | h) | h) | h) | h) | h) | h) | h) | h) | h) | h) | h <;> (rw [h] at hn ⊢; exact hn)
                | false =>
                  have hnone := hother hb hpp
                  simp only [punctI, Bool.or_eq_false_iff, beq_eq_false_iff_ne, ne_eq] at hpp
                  obtain ⟨⟨⟨⟨⟨⟨⟨⟨⟨⟨⟨⟨q1, q2⟩, q3⟩, q4⟩, q5⟩, q6⟩, q7⟩, q8⟩, q9⟩, q10⟩, q11⟩, q12⟩, q13⟩ := hpp
                  simp only [if_neg q1, if_neg q2, if_neg q3, if_neg q4, if_neg q5, if_neg q6, if_neg q7, if_neg q8, if_neg q9, if_neg q10, if_neg q11, if_neg q12, if_neg q13]
                  exact stop hnone
            · rw [if_neg hok]
              exact stop (nok (by simpa using hok))
          by_cases h48 : (c : Int) ≥ 48
          · rw [if_pos h48, if_neg (by omega)]
            exact body
          · rw [if_neg h48]
            exact body
        · have hr := rune_high l p hlt hlow
          have hnone : lexS (l.drop p) pend acc = none := by
            rw [hls]
            cases flushS pend acc with
            | none => rfl
            | some a =>
              have h1 : ¬ (l[p].toNat = 32 ∨ l[p].toNat = 95) := by omega
              have h2 : punctI (l[p].toNat : Int) = false := by
                simp only [punctI, Bool.or_eq_false_iff, beq_eq_false_iff_ne, ne_eq]
                omega
              simp only [obs, if_neg h1, h2]; rfl
          generalize runeAt (B l) p = c at *
          rw [if_pos (show c ≥ 48 by omega), if_neg (show ¬ c ≤ 57 by omega), ef, obs]
          by_cases hok : ok = true
          · have e : ((c : Int) == 95) = false := by simp; omega
            rw [if_pos hok, if_neg (show ¬ c = 32 by omega), e, obs, if_neg (show ¬ false = true by decide), if_neg (show ¬ c = 124 by omega), if_neg (show ¬ c = 40 by omega), if_neg (show ¬ c = 41 by omega), if_neg (show ¬ c = 91 by omega), if_neg (show ¬ c = 93 by omega), if_neg (show ¬ c = 94 by omega), if_neg (show ¬ c = 36 by omega), if_neg (show ¬ c = 46 by omega), if_neg (show ¬ c = 42 by omega), if_neg (show ¬ c = 43 by omega), if_neg (show ¬ c = 63 by omega), if_neg (show ¬ c = 45 by omega), if_neg (show ¬ c = 44 by omega)]
            exact stop hnone
          · rw [if_neg hok]
            exact stop hnone
    · rw [if_neg hlt]
      have hpl : p = l.length := by omega
      have hdr : l.drop p = [] := List.drop_eq_nil_of_le (by omega)
      obtain ⟨ok, acc', ef, hf1, hf2⟩ := flush_eq (k := K) hp hl hpe hlen hd (by omega) (by omega) (acc := acc)
      unfold fin
      simp only [obs]
      rw [B_size, ← hpl, ef]
      exact ⟨acc', ok, rfl, fun h => by rw [hdr, lexS]; exact hf1 h, fun h => by rw [hdr, lexS]; exact hf2 h⟩
theorem signs_ok {k : Nat} {l : List UInt8} (hk : 400000 ≤ k) (hl : l.length ≤ 100000) : ∃ sg ok, regex_signs.f k (B l) = some (sg, ok) ∧ (ok = true → lexS l [] [] = some sg) ∧ (ok = false → lexS l [] [] = none) := by
  have h := signs_l0 k (by omega) l hl k 0 [] [] (Nat.zero_le _) (by omega) (by simp) (by simp) (fun _ h => by cases h) (by simp)
  obtain ⟨sg, ok, e, h1, h2⟩ := h
  exact ⟨sg, ok, by rw [regex_signs.f]; exact e, h1, h2⟩
theorem flush_sgs {pend : List UInt8} {acc r : List T_sg} (h : flushS pend acc = some r) (hs : sgs acc) : sgs r ∧ r.length ≤ acc.length + pend.length := by
  unfold flushS at h
  split at h
  · obtain rfl := Option.some.inj h
    exact ⟨hs, by omega⟩
  · rename_i h0
    obtain ⟨m, hm, rfl⟩ := Option.map_eq_some_iff.1 h
    have hm' : m ≤ 4294967295 := by
      unfold numOf at hm
      split at hm
      · rename_i hh
        obtain rfl := Option.some.inj hm
        exact hh.1
      · cases hm
    refine ⟨fun x hx => ?_, ?_⟩
    · rcases List.mem_append.1 hx with hx | hx
      · exact hs x hx
      · rw [List.mem_singleton] at hx; subst hx
        exact ⟨fun _ => ⟨⟨by show (0 : Int) ≤ (m : Int); omega, by show (m : Int) < 4294967296; omega⟩, rfl⟩, fun h => by cases h⟩
    · have := List.length_pos_iff.2 h0
      simp; omega
theorem lex_sgs : ∀ (l pend : List UInt8) (acc r : List T_sg), lexS l pend acc = some r → sgs acc → sgs r ∧ r.length ≤ acc.length + pend.length + l.length
  | [], pend, acc, r, h, hs => by
    rw [lexS] at h
    have := flush_sgs h hs
    exact ⟨this.1, by simpa using this.2⟩
  | c :: l, pend, acc, r, h, hs => by
    rw [lexS] at h
    split at h
    · have := lex_sgs l _ _ _ h hs
      refine ⟨this.1, ?_⟩
      have h2 := this.2
      simp at h2 ⊢; omega
    · obtain ⟨a, ha, h⟩ := obx h
      obtain ⟨f1, f2⟩ := flush_sgs ha hs
      have addx : ∀ x : T_sg, signOk x → sgs (a ++ [x]) := fun x hx y hy => by
        rcases List.mem_append.1 hy with hy | hy
        · exact f1 y hy
        · rw [List.mem_singleton] at hy; subst hy; exact hx
      split at h
      · have := lex_sgs l _ _ _ h (addx _ ⟨fun h => (by cases h), fun _ => by decide⟩)
        refine ⟨this.1, ?_⟩
        have h2 := this.2
        simp at h2 ⊢; omega
      · split at h
        · rename_i hp
          have := lex_sgs l _ _ _ h (addx _ ⟨fun h => (by cases h), fun _ h0 => by
            simp only at h0
            rw [h0] at hp
            exact absurd hp (by decide)⟩)
          refine ⟨this.1, ?_⟩
          have h2 := this.2
          simp at h2 ⊢; omega
        · cases h
end Go.Proofs.YtafnenafbognkaaGreatDoor
namespace Go.Proofs.YtafnenafbognkaaGreatDoor
open Sp
set_option maxRecDepth 100000
set_option maxHeartbeats 4000000
def Pat (k : Nat) (e : T_regex_Expr) : Prop :=
  WF 2 e.top ∧ wt e.top ≤ 1000 ∧ Val e.prog ∧ ∃ q, regex_Expr_compile.f k ⟨e.top, []⟩ e.top = some ⟨e.top, q⟩ ∧ V q ∧ q.length ≤ 4000 ∧ e.prog = q ++ [lastStep]
end Go.Proofs.YtafnenafbognkaaGreatDoor
namespace Go.Proofs.YtafnenafbognkaaGreatDoor
open Sp
set_option maxRecDepth 100000
set_option maxHeartbeats 4000000
def tk (s : T_regex_step) (x : Int) : Bool := s.all || (if s.spans.any (fun y => decide (x ≥ y.from_) && decide (x ≤ y.to_)) then !s.not else s.not)
theorem takes_l0_eq (s : T_regex_step) (n : Int) (hb : s.spans.length ≤ 1000000000) : ∀ (k j : Nat), j ≤ s.spans.length → s.spans.length < k + j →
    regex_step_takes.l0 k s n (j : Int) = some (if (s.spans.drop j).any (fun y => decide (n ≥ y.from_) && decide (n ≤ y.to_)) then .inl (!s.not) else .inr ())
  | 0, _, _, h => by omega
  | k + 1, j, hj, hk => by
    rw [regex_step_takes.l0]
    by_cases hlt : j < s.spans.length
    · rw [if_pos (by omega), lat_nat, List.getElem?_eq_getElem hlt, obs]
      rw [i64_id (by omega) (by omega), show ((j : Int) + 1) = ((j + 1 : Nat) : Int) by omega, takes_l0_eq s n hb k (j + 1) (by omega) (by omega)]
      rw [List.drop_eq_getElem_cons hlt, List.any_cons]
      by_cases h1 : n ≥ s.spans[j].from_
      · by_cases h2 : n ≤ s.spans[j].to_
        · simp [h1, h2]
        · simp [h1, h2]
      · simp [h1]
    · rw [if_neg (by omega)]
      have : s.spans.drop j = [] := List.drop_eq_nil_of_le (by omega)
      rw [this]; rfl
theorem takes_eq {k : Nat} {s : T_regex_step} {n : Int} (hb : s.spans.length ≤ 1000000000) (hk : s.spans.length < k) : regex_step_takes.f k s n = some (tk s n) := by
  rw [regex_step_takes.f]
  unfold tk
  cases ha : s.all with
  | true => simp
  | false =>
    rw [if_neg (by decide)]
    have e := takes_l0_eq s n hb k 0 (Nat.zero_le _) (by omega)
    rw [show ((0 : Nat) : Int) = 0 from rfl, List.drop_zero] at e
    rw [e]
    simp only [obs, Bool.false_or]
    by_cases h : s.spans.any (fun y => decide (n ≥ y.from_) && decide (n ≤ y.to_)) = true
    · rw [if_pos h, if_pos h]
    · rw [if_neg h, if_neg h]
def eps (p : List T_regex_step) (i n : Int) (a b : Nat) : Prop := ∃ s, p[a]? = some s ∧ ((s.op = 1 ∧ (s.to_.1 = (b : Int) ∨ s.to_.2 = (b : Int))) ∨ (s.op = 2 ∧ i = 0 ∧ b = a + 1) ∨ (s.op = 3 ∧ i = n ∧ b = a + 1))
inductive Rch (p : List T_regex_step) (i n : Int) : Nat → Nat → Prop
  | refl (a : Nat) : Rch p i n a a
  | step {a b c : Nat} : eps p i n a b → Rch p i n b c → Rch p i n a c
def mem (s : List Bool) (a : Nat) : Prop := s[a]? = some true
theorem mem_set {s : List Bool} {a q : Nat} (h : mem (s.set a true) q) : mem s q ∨ q = a := by
  unfold mem at h ⊢
  rw [List.getElem?_set] at h
  split at h
  · right; omega
  · left; exact h
theorem set_mem {s : List Bool} {a q : Nat} (h : mem s q) : mem (s.set a true) q := by
  unfold mem at h ⊢
  rw [List.getElem?_set]
  split
  · have := (List.getElem?_eq_some_iff.1 h).1
    rename_i e; subst e
    rw [if_pos this]
  · exact h
theorem set_self {s : List Bool} {a : Nat} (h : a < s.length) : mem (s.set a true) a := by
  unfold mem
  rw [List.getElem?_set, if_pos rfl, if_pos h]
def Added (p : List T_regex_step) (i n : Int) (s : List Bool) (a : Nat) (s' : List Bool) : Prop :=
  (∀ q, mem s q → mem s' q) ∧ mem s' a ∧ ∀ q, mem s' q → mem s q ∨ (Rch p i n a q ∧ ∀ b, eps p i n q b → mem s' b)
theorem add_spec (e : T_regex_Expr) (hV : Val e.prog) (i n : Int) : ∀ (k : Nat) (s : List Bool) (a : Nat) (s' : List Bool), s.length = e.prog.length → a < e.prog.length → regex_Expr_add.f k (some e) s (a : Int) i n = some s' → Added e.prog i n s a s' ∧ s'.length = s.length
  | 0, _, _, _, _, _, h => by rw [regex_Expr_add.f] at h; cases h
  | k + 1, s, a, s', hl, ha, h => by
    have hlen : e.prog.length ≤ 1000000 := hV.2
    rw [regex_Expr_add.f, lat_nat, List.getElem?_eq_getElem (by omega), obs] at h
    by_cases hb : s[a] = true
    · rw [if_pos hb] at h
      obtain rfl := Option.some.inj h
      refine ⟨⟨fun q hq => hq, ?_, fun q hq => .inl hq⟩, rfl⟩
      unfold mem; rw [List.getElem?_eq_getElem (by omega), hb]
    · rw [if_neg hb, obs, obs, lat_nat, List.getElem?_eq_getElem ha, obs, Int.toNat_natCast] at h
      have hst : e.prog[a]? = some e.prog[a] := List.getElem?_eq_getElem ha
      obtain ⟨st, hst1, hst2, hst3⟩ := hV.at (i := (a : Int)) (by omega) (by omega)
      rw [lat_nat, hst] at hst1
      obtain rfl := Option.some.inj hst1
      generalize hg : e.prog[a] = st at *
      have hl1 : (s.set a true).length = e.prog.length := by rw [List.length_set]; exact hl
      -- nothing more
      have self : (∀ b, ¬ eps e.prog i n a b) → some (s.set a true) = some s' → Added e.prog i n s a s' ∧ s'.length = s.length := by
        intro hno hs
        obtain rfl := Option.some.inj hs
        refine ⟨⟨fun q hq => set_mem hq, set_self (by omega), fun q hq => ?_⟩, List.length_set ..⟩
        rcases mem_set hq with hq | rfl
        · exact .inl hq
        · exact .inr ⟨.refl _, fun b hb => absurd hb (hno b)⟩
      -- one more
      have one : (∀ b, eps e.prog i n a b ↔ b = a + 1) → a + 1 < e.prog.length → ((regex_Expr_add.f k (some e) (s.set a true) (i64 ((a : Int) + 1)) i n).bind fun y => some y) = some s' → Added e.prog i n s a s' ∧ s'.length = s.length := by
        intro hone ha1 hs
        rw [i64_id (by omega) (by omega), show (a : Int) + 1 = ((a + 1 : Nat) : Int) by omega] at hs
        obtain ⟨s1, e1, hs⟩ := obx hs
        obtain rfl := Option.some.inj hs
        obtain ⟨⟨k1, k2, k3⟩, k4⟩ := add_spec e hV i n k (s.set a true) (a + 1) s1 hl1 ha1 e1
        refine ⟨⟨fun q hq => k1 q (set_mem hq), k1 a (set_self (by omega)), fun q hq => ?_⟩, by rw [k4, List.length_set]⟩
        rcases k3 q hq with hq | ⟨hq, hq2⟩
        · rcases mem_set hq with hq | rfl
          · exact .inl hq
          · exact .inr ⟨.refl _, fun b hb => by rw [(hone b).1 hb]; exact k2⟩
        · exact .inr ⟨.step ((hone _).2 rfl) hq, hq2⟩
      have epsA : ∀ b, eps e.prog i n a b ↔ ((st.op = 1 ∧ (st.to_.1 = (b : Int) ∨ st.to_.2 = (b : Int))) ∨ (st.op = 2 ∧ i = 0 ∧ b = a + 1) ∨ (st.op = 3 ∧ i = n ∧ b = a + 1)) := fun b => by
        constructor
        · rintro ⟨s2, h2, h3⟩
          rw [hst] at h2
          obtain rfl := Option.some.inj h2
          exact h3
        · intro h3; exact ⟨st, hst, h3⟩
      split at h
      · rename_i ho
        obtain ⟨⟨t1, t2⟩, t3, t4⟩ := hst2 ho
        obtain ⟨s1, e1, h⟩ := obx h
        obtain ⟨s2, e2, h⟩ := obx h
        obtain rfl := Option.some.inj h
        obtain ⟨b1, hb1⟩ := Int.eq_ofNat_of_zero_le t1
        obtain ⟨b2, hb2⟩ := Int.eq_ofNat_of_zero_le t3
        rw [hb1] at e1
        rw [hb2] at e2
        obtain ⟨⟨k1, k2, k3⟩, k4⟩ := add_spec e hV i n k (s.set a true) b1 s1 hl1 (by omega) e1
        obtain ⟨⟨j1, j2, j3⟩, j4⟩ := add_spec e hV i n k s1 b2 s2 (by rw [k4, hl1]) (by omega) e2
        refine ⟨⟨fun q hq => j1 q (k1 q (set_mem hq)), j1 a (k1 a (set_self (by omega))), fun q hq => ?_⟩, by rw [j4, k4, List.length_set]⟩
        rcases j3 q hq with hq | ⟨hq, hq2⟩
        · rcases k3 q hq with hq | ⟨hq, hq2⟩
          · rcases mem_set hq with hq | rfl
            · exact .inl hq
            · refine .inr ⟨.refl _, fun b hb => ?_⟩
              rcases (epsA b).1 hb with ⟨_, h | h⟩ | ⟨h, _⟩ | ⟨h, _⟩
              · rw [hb1] at h
                obtain rfl : b1 = b := by exact_mod_cast h
                exact j1 _ k2
              · rw [hb2] at h
                obtain rfl : b2 = b := by exact_mod_cast h
                exact j2
              · rw [ho] at h; exact absurd h (by decide)
              · rw [ho] at h; exact absurd h (by decide)
          · exact .inr ⟨.step ((epsA b1).2 (.inl ⟨ho, .inl hb1⟩)) hq, fun b hb => j1 b (hq2 b hb)⟩
        · exact .inr ⟨.step ((epsA b2).2 (.inl ⟨ho, .inr hb2⟩)) hq, hq2⟩
      · rename_i h1
        split at h
        · rename_i ho
          split at h
          · rename_i hi
            refine one (fun b => ?_) ?_ h
            · rw [epsA]
              constructor
              · rintro (⟨h, _⟩ | ⟨_, _, h⟩ | ⟨h, _⟩)
                · exact absurd h h1
                · exact h
                · rw [ho] at h; exact absurd h (by decide)
              · intro h; exact .inr (.inl ⟨ho, hi, h⟩)
            · have := hst3 (.inr (.inl ho)); omega
          · rename_i hi
            refine self (fun b hb => ?_) h
            rcases (epsA b).1 hb with ⟨h, _⟩ | ⟨_, h, _⟩ | ⟨h, _⟩
            · exact h1 h
            · exact hi h
            · rw [ho] at h; exact absurd h (by decide)
        · rename_i h2
          split at h
          · rename_i ho
            split at h
            · rename_i hi
              refine one (fun b => ?_) ?_ h
              · rw [epsA]
                constructor
                · rintro (⟨h, _⟩ | ⟨h, _⟩ | ⟨_, _, h⟩)
                  · exact absurd h h1
                  · exact absurd h h2
                  · exact h
                · intro h; exact .inr (.inr ⟨ho, hi, h⟩)
              · have := hst3 (.inr (.inr ho)); omega
            · rename_i hi
              refine self (fun b hb => ?_) h
              rcases (epsA b).1 hb with ⟨h, _⟩ | ⟨h, _⟩ | ⟨_, h, _⟩
              · exact h1 h
              · exact h2 h
              · exact hi h
          · rename_i h3
            refine self (fun b hb => ?_) h
            rcases (epsA b).1 hb with ⟨h, _⟩ | ⟨h, _⟩ | ⟨h, _⟩
            · exact h1 h
            · exact h2 h
            · exact h3 h
inductive Cfg (p : List T_regex_step) (l : List Int) : Nat → Nat → Prop
  | start {i : Nat} : i ≤ l.length → Cfg p l i 0
  | eps {i a b : Nat} : Cfg p l i a → eps p (i : Int) (l.length : Int) a b → Cfg p l i b
  | take {i a : Nat} {s : T_regex_step} {x : Int} : Cfg p l i a → p[a]? = some s → s.op = 0 → l[i]? = some x → tk s x = true → Cfg p l (i + 1) (a + 1)
theorem Cfg.rch {p : List T_regex_step} {l : List Int} {i a b : Nat} (h : Cfg p l i a) (hr : Rch p (i : Int) (l.length : Int) a b) : Cfg p l i b := by
  induction hr with
  | refl => exact h
  | step he _ ih => exact ih (h.eps he)
def SetOk (p : List T_regex_step) (l : List Int) (i : Nat) (s : List Bool) : Prop :=
  s.length = p.length ∧ (∀ q, mem s q → Cfg p l i q) ∧ ∀ q, mem s q → ∀ b, eps p (i : Int) (l.length : Int) q b → mem s b
theorem SetOk.add {e : T_regex_Expr} (hV : Val e.prog) {l : List Int} {i a k : Nat} {s s' : List Bool} (h : SetOk e.prog l i s) (ha : a < e.prog.length) (hc : Cfg e.prog l i a) (hs : regex_Expr_add.f k (some e) s (a : Int) (i : Int) (l.length : Int) = some s') :
    SetOk e.prog l i s' ∧ mem s' a ∧ ∀ q, mem s q → mem s' q := by
  obtain ⟨h1, h2, h3⟩ := h
  obtain ⟨⟨k1, k2, k3⟩, k4⟩ := add_spec e hV _ _ k s a s' h1 ha hs
  refine ⟨⟨by rw [k4, h1], fun q hq => ?_, fun q hq b hb => ?_⟩, k2, k1⟩
  · rcases k3 q hq with hq | ⟨hq, _⟩
    · exact h2 q hq
    · exact hc.rch hq
  · rcases k3 q hq with hq | ⟨_, hq⟩
    · exact k1 b (h3 q hq b hb)
    · exact hq b hb
def Has (p : List T_regex_step) (l : List Int) (i : Nat) (s : List Bool) : Prop := ∀ j a st x, i = j + 1 → Cfg p l j a → p[a]? = some st → st.op = 0 → l[j]? = some x → tk st x = true → mem s (a + 1)
theorem set_all {p : List T_regex_step} {l : List Int} {i : Nat} {s : List Bool} (h : SetOk p l i s) (h0 : mem s 0) (hh : Has p l i s) {q : Nat} (hq : Cfg p l i q) : mem s q := by
  generalize hi : i = i' at hq
  induction hq with
  | start => exact h0
  | eps _ he ih => subst hi; exact h.2.2 _ (ih rfl) _ he
  | take hc h1 h2 h3 h4 _ => exact hh _ _ _ _ hi hc h1 h2 h3 h4
theorem l1_spec (e : T_regex_Expr) (hV : Val e.prog) (l : List Int) (hll : l.length ≤ 1000000) (i : Nat) (hi : i < l.length) (set : List Bool) (hs : SetOk e.prog l i set) :
    ∀ (k j : Nat) (nx r : List Bool), j ≤ set.length → 3000000 ≤ k + j → SetOk e.prog l (i + 1) nx → (∀ a st, a < j → mem set a → e.prog[a]? = some st → st.op = 0 → tk st l[i] = true → mem nx (a + 1)) →
      regex_Expr_Match.l1 k (some e) l e (i : Int) set nx (j : Int) = some r → SetOk e.prog l (i + 1) r ∧ ∀ a st, mem set a → e.prog[a]? = some st → st.op = 0 → tk st l[i] = true → mem r (a + 1)
  | 0, _, _, _, _, _, _, _, h => by rw [regex_Expr_Match.l1] at h; cases h
  | k + 1, j, nx, r, hj, hk, hn, hd, h => by
    have hlen : e.prog.length ≤ 1000000 := hV.2
    have hsl := hs.1
    rw [regex_Expr_Match.l1] at h
    by_cases hlt : j < set.length
    · rw [if_pos (by omega), lat_nat, List.getElem?_eq_getElem hlt, obs] at h
      rw [i64_id (n := (j : Int) + 1) (by omega) (by omega), show ((j : Int) + 1) = ((j + 1 : Nat) : Int) by omega, i64_id (n := (i : Int) + 1) (by omega) (by omega), show ((i : Int) + 1) = ((i + 1 : Nat) : Int) by omega] at h
      have hst : e.prog[j]? = some e.prog[j] := List.getElem?_eq_getElem (by omega)
      have skip : (mem set j → ∀ st, e.prog[j]? = some st → st.op = 0 → tk st l[i] = true → False) → ∀ a st, a < j + 1 → mem set a → e.prog[a]? = some st → st.op = 0 → tk st l[i] = true → mem nx (a + 1) := by
        intro hno a st ha hm h1 h2 h3
        by_cases haj : a < j
        · exact hd a st haj hm h1 h2 h3
        · obtain rfl : a = j := by omega
          exact (hno hm st h1 h2 h3).elim
      split at h
      · rename_i hset
        have hmj : mem set j := by unfold mem; rw [List.getElem?_eq_getElem hlt, hset]
        rw [lat_nat, hst, obs] at h
        split at h
        · rename_i ho
          rw [obs, lat_nat, List.getElem?_eq_getElem hi, obs] at h
          have hsp := hV.spans e.prog[j] (List.getElem_mem _)
          by_cases hk2 : k ≤ 1000000
          · omega
          rw [takes_eq (by omega) (by omega), obs] at h
          split at h
          · rename_i htk
            obtain ⟨nx', ea, h⟩ := obx h
            have hcfg : Cfg e.prog l (i + 1) (j + 1) := .take (hs.2.1 j hmj) hst ho (List.getElem?_eq_getElem hi) htk
            have hjl : j + 1 < e.prog.length := by
              obtain ⟨st, q1, _, q3⟩ := hV.at (i := (j : Int)) (by omega) (by omega)
              rw [lat_nat, hst] at q1
              obtain rfl := Option.some.inj q1
              have := q3 (.inl ho); omega
            obtain ⟨g1, g2, g3⟩ := hn.add hV hjl hcfg ea
            refine l1_spec e hV l hll i hi set hs k (j + 1) nx' r (by omega) (by omega) g1 (fun a st ha hm h1 h2 h3 => ?_) h
            by_cases haj : a < j
            · exact g3 _ (hd a st haj hm h1 h2 h3)
            · obtain rfl : a = j := by omega
              exact g2
          · rename_i htk
            refine l1_spec e hV l hll i hi set hs k (j + 1) nx r (by omega) (by omega) hn (skip fun _ st h1 _ h3 => ?_) h
            rw [hst] at h1
            obtain rfl := Option.some.inj h1
            exact htk h3
        · rename_i ho
          refine l1_spec e hV l hll i hi set hs k (j + 1) nx r (by omega) (by omega) hn (skip fun _ st h1 h2 _ => ?_) h
          rw [hst] at h1
          obtain rfl := Option.some.inj h1
          exact ho h2
      · rename_i hset
        refine l1_spec e hV l hll i hi set hs k (j + 1) nx r (by omega) (by omega) hn (skip fun hm _ _ _ _ => ?_) h
        unfold mem at hm
        rw [List.getElem?_eq_getElem hlt] at hm
        exact hset (Option.some.inj hm)
    · rw [if_neg (by omega)] at h
      obtain rfl := Option.some.inj h
      refine ⟨hn, fun a st hm h1 h2 h3 => hd a st ?_ hm h1 h2 h3⟩
      have := (List.getElem?_eq_some_iff.1 hm).1
      omega
theorem empty_ok (p : List T_regex_step) (l : List Int) (i : Nat) : SetOk p l i (List.replicate p.length false) := by
  have hno : ∀ q, ¬ mem (List.replicate p.length false) q := fun q h => by
    unfold mem at h
    rw [List.getElem?_replicate] at h
    split at h
    · cases h
    · cases h
  exact ⟨List.length_replicate, fun q h => (hno q h).elim, fun q h => (hno q h).elim⟩
theorem l0_spec (e : T_regex_Expr) (hV : Val e.prog) (l : List Int) (hll : l.length ≤ 1000000) :
    ∀ (k i : Nat) (set : List Bool) (b : Bool), i ≤ l.length → 4500000 ≤ k + i → SetOk e.prog l i set → Has e.prog l i set → (∀ j, j < i → ¬ Cfg e.prog l j (e.prog.length - 1)) →
      regex_Expr_Match.l0 k (some e) l e set (i : Int) = some (.inl b) → (b = true ↔ ∃ j, j ≤ l.length ∧ Cfg e.prog l j (e.prog.length - 1))
  | 0, _, _, _, _, _, _, _, _, h => by rw [regex_Expr_Match.l0] at h; cases h
  | k + 1, i, set, b, hi, hk, hs, hh, hno, h => by
    have hlen : e.prog.length ≤ 1000000 := hV.2
    have hpos := hV.pos
    rw [regex_Expr_Match.l0] at h
    obtain ⟨s1, ea, h⟩ := obx h
    rw [show (0 : Int) = ((0 : Nat) : Int) from rfl] at ea
    obtain ⟨g1, g2, g3⟩ := hs.add hV hpos (.start hi) ea
    rw [i64_id (n := (e.prog.length : Int) - 1) (by omega) (by omega), show (e.prog.length : Int) - 1 = ((e.prog.length - 1 : Nat) : Int) by omega, lat_nat, List.getElem?_eq_getElem (by rw [g1.1]; omega), obs] at h
    have hall : ∀ q, Cfg e.prog l i q → mem s1 q := fun q hq => set_all g1 g2 (fun j a st x hj hc h1 h2 h3 h4 => g3 _ (hh j a st x hj hc h1 h2 h3 h4)) hq
    have hm : mem s1 (e.prog.length - 1) ↔ s1[e.prog.length - 1]'(by rw [g1.1]; omega) = true := by
      unfold mem
      rw [List.getElem?_eq_getElem (by rw [g1.1]; omega)]
      exact ⟨fun h => Option.some.inj h, fun h => by rw [h]⟩
    have dbl : ∀ {o : Option (Sum Bool Unit)} {c : Bool}, ((some c).bind fun y : Bool => (some (Sum.inl y) : Option (Sum Bool Unit))) = some (.inl b) → c = b := fun h => by
      simpa using h
    split at h
    · rename_i ht
      rw [obs] at h
      obtain rfl : _ = b := by simpa using h
      exact ⟨fun _ => ⟨i, hi, g1.2.1 _ (hm.2 ht)⟩, fun _ => ht⟩
    · rename_i hf
      split at h
      · rename_i hil
        rw [obs] at h
        obtain rfl : _ = b := by simpa using h
        refine ⟨fun ht => absurd ht hf, fun ⟨j, hj, hc⟩ => ?_⟩
        by_cases hji : j < i
        · exact absurd hc (hno j hji)
        · obtain rfl : j = i := by omega
          exact hm.1 (hall _ hc)
      · rename_i hil
        rw [made_ok _ hlen, obs] at h
        obtain ⟨nx, e1, h⟩ := obx h
        rw [show (0 : Int) = ((0 : Nat) : Int) from rfl] at e1
        have hlt : i < l.length := by omega
        obtain ⟨q1, q2⟩ := l1_spec e hV l hll i hlt s1 g1 k 0 _ nx (Nat.zero_le _) (by omega) (empty_ok _ _ _) (fun a st ha => by omega) e1
        rw [i64_id (by omega) (by omega), show ((i : Int) + 1) = ((i + 1 : Nat) : Int) by omega] at h
        refine l0_spec e hV l hll k (i + 1) nx b (by omega) (by omega) q1 (fun j a st x hj hc h1 h2 h3 h4 => ?_) (fun j hj hc => ?_) h
        · obtain rfl : j = i := by omega
          rw [List.getElem?_eq_getElem hlt] at h3
          obtain rfl := Option.some.inj h3
          exact q2 a st (hall _ hc) h1 h2 h4
        · by_cases hji : j < i
          · exact hno j hji hc
          · obtain rfl : j = i := by omega
            exact hf (hm.1 (hall _ hc))
theorem match_spec {k : Nat} (e : T_regex_Expr) (hV : Val e.prog) (l : List Int) (hll : l.length ≤ 1000000) (hk : 5000000 ≤ k) : ∃ b, regex_Expr_Match.f k (some e) l = some b ∧ (b = true ↔ ∃ j, j ≤ l.length ∧ Cfg e.prog l j (e.prog.length - 1)) := by
  obtain ⟨b, hb⟩ := match_ok (k := k) e hV hV.spans l hll hk
  refine ⟨b, hb, ?_⟩
  have hlen : e.prog.length ≤ 1000000 := hV.2
  have hpos := hV.pos
  rw [regex_Expr_Match.f] at hb
  simp only [Option.isNone_some, Bool.false_eq_true, if_false, obs] at hb
  rw [if_neg (by omega), made_ok _ hlen, obs] at hb
  obtain ⟨o, ho, hb⟩ := obx hb
  cases o with
  | inr _ => cases hb
  | inl b' =>
    obtain rfl := Option.some.inj hb
    rw [show (0 : Int) = ((0 : Nat) : Int) from rfl] at ho
    exact l0_spec e hV l hll k 0 _ b' (Nat.zero_le _) (by omega) (empty_ok _ _ _) (fun j a st x hj => by omega) (fun j hj => by omega) ho
end Go.Proofs.YtafnenafbognkaaGreatDoor
namespace Go.Proofs.YtafnenafbognkaaGreatDoor
open Sp
set_option maxRecDepth 100000
set_option maxHeartbeats 4000000
def split (p : List T_regex_step) (a b c : Nat) : Prop := ∃ s, p[a]? = some s ∧ s.op = 1 ∧ s.to_ = ((b : Int), (c : Int))
def chain (F : T_pc → Nat → Nat → Prop) : List T_pc → Nat → Nat → Prop
  | [], a, e => a = e
  | x :: xs, a, e => ∃ m, F x a m ∧ chain F xs m e
def alts (p : List T_regex_step) (F : T_pc → Nat → Nat → Prop) : List T_pc → Nat → Nat → Prop
  | [], _, _ => False
  | [x], a, e => F x a e
  | x :: y :: r, a, e => ∃ m, split p a (a + 1) (m + 1) ∧ F x (a + 1) m ∧ split p m e e ∧ alts p F (y :: r) (m + 1) e
def Frag : Nat → List T_regex_step → T_pc → Nat → Nat → Prop
  | 0, _, _, _, _ => False
  | n + 1, p, x, a, e =>
    (x.kind = 0 ∧ chain (Frag n p) x.parts a e) ∨
    (x.kind = 1 ∧ alts p (Frag n p) x.parts a e) ∨
    ((x.kind = 2 ∨ x.kind = 4) ∧ e = a + 1 ∧ ∃ s, p[a]? = some s ∧ s.op = 0 ∧ s.spans = x.spans ∧ s.all = false ∧ s.not = x.not) ∨
    (x.kind = 3 ∧ e = a + 1 ∧ ∃ s, p[a]? = some s ∧ s.op = 0 ∧ s.all = true) ∨
    (x.kind = 5 ∧ e = a + 1 ∧ ∃ s, p[a]? = some s ∧ s.op = 2) ∨
    (x.kind = 6 ∧ e = a + 1 ∧ ∃ s, p[a]? = some s ∧ s.op = 3) ∨
    (x.kind = 8 ∧ ∃ q m, x.parts = [q] ∧ Frag n p q a m ∧ split p m a (m + 1) ∧ e = m + 1) ∨
    (x.kind = 7 ∧ ∃ q m, x.parts = [q] ∧ split p a (a + 1) (m + 1) ∧ Frag n p q (a + 1) m ∧ split p m a a ∧ e = m + 1) ∨
    (x.kind = 9 ∧ ∃ q, x.parts = [q] ∧ split p a (a + 1) e ∧ Frag n p q (a + 1) e)
theorem chain_le {F : T_pc → Nat → Nat → Prop} (hF : ∀ x a e, F x a e → a ≤ e) : ∀ {l a e}, chain F l a e → a ≤ e
  | [], _, _, h => Nat.le_of_eq h
  | _ :: _, _, _, ⟨_, h1, h2⟩ => Nat.le_trans (hF _ _ _ h1) (chain_le hF h2)
theorem alts_le {p : List T_regex_step} {F : T_pc → Nat → Nat → Prop} (hF : ∀ x a e, F x a e → a ≤ e) : ∀ {l a e}, alts p F l a e → a ≤ e
  | [], _, _, h => h.elim
  | [x], _, _, h => hF _ _ _ h
  | x :: y :: r, _, _, ⟨m, _, h1, _, h2⟩ => by
    have := hF _ _ _ h1
    have := alts_le hF h2
    omega
theorem frag_le {p : List T_regex_step} : ∀ (n : Nat) (x : T_pc) (a e : Nat), Frag n p x a e → a ≤ e
  | 0, _, _, _, h => h.elim
  | n + 1, x, a, e, h => by
    rcases h with ⟨_, h⟩ | ⟨_, h⟩ | ⟨_, h, _⟩ | ⟨_, h, _⟩ | ⟨_, h, _⟩ | ⟨_, h, _⟩ | ⟨_, q, m, _, h, _, h2⟩ | ⟨_, q, m, _, _, h, _, h2⟩ | ⟨_, q, _, _, h⟩
    · exact chain_le (frag_le n) h
    · exact alts_le (frag_le n) h
    · omega
    · omega
    · omega
    · omega
    · have := frag_le n _ _ _ h; omega
    · have := frag_le n _ _ _ h; omega
    · have := frag_le n _ _ _ h; omega
def Alike (p q : List T_regex_step) (a e : Nat) : Prop := ∀ i, a ≤ i → i < e → q[i]? = p[i]?
theorem Alike.sub {p q : List T_regex_step} {a e b f : Nat} (h : Alike p q a e) (h1 : a ≤ b) (h2 : f ≤ e) : Alike p q b f := fun i hi hj => h i (by omega) (by omega)
theorem split.alike {p q : List T_regex_step} {a e x b c : Nat} (h : split p x b c) (hq : Alike p q a e) (h1 : a ≤ x) (h2 : x < e) : split q x b c := by
  obtain ⟨s, e1, e2⟩ := h
  exact ⟨s, by rw [hq x h1 h2]; exact e1, e2⟩
theorem chain_alike {F G : T_pc → Nat → Nat → Prop} {p q : List T_regex_step} (hF : ∀ x a e, F x a e → a ≤ e) (h : ∀ x a e, F x a e → Alike p q a e → G x a e) : ∀ {l a e}, chain F l a e → Alike p q a e → chain G l a e
  | [], _, _, hc, _ => hc
  | _ :: _, _, _, ⟨m, h1, h2⟩, ha => ⟨m, h _ _ _ h1 (ha.sub (Nat.le_refl _) (chain_le hF h2)), chain_alike hF h h2 (ha.sub (hF _ _ _ h1) (Nat.le_refl _))⟩
theorem alts_alike {F G : T_pc → Nat → Nat → Prop} {p q : List T_regex_step} (hF : ∀ x a e, F x a e → a ≤ e) (h : ∀ x a e, F x a e → Alike p q a e → G x a e) : ∀ {l a e}, alts p F l a e → Alike p q a e → alts q G l a e
  | [], _, _, hc, _ => hc
  | [x], _, _, hc, ha => h _ _ _ hc ha
  | x :: y :: r, a, e, ⟨m, s1, h1, s2, h2⟩, ha => by
    have l1 := hF _ _ _ h1
    have l2 := alts_le hF h2
    exact ⟨m, s1.alike ha (Nat.le_refl _) (by omega), h _ _ _ h1 (ha.sub (by omega) (by omega)), s2.alike ha (by omega) (by omega), alts_alike hF h h2 (ha.sub (by omega) (Nat.le_refl _))⟩
theorem frag_alike {p q : List T_regex_step} : ∀ (n : Nat) (x : T_pc) (a e : Nat), Frag n p x a e → Alike p q a e → Frag n q x a e
  | 0, _, _, _, h, _ => h.elim
  | n + 1, x, a, e, h, ha => by
    have one : ∀ {Q : T_regex_step → Prop}, e = a + 1 → (∃ s, p[a]? = some s ∧ Q s) → ∃ s, q[a]? = some s ∧ Q s := fun he ⟨s, h1, h2⟩ => ⟨s, by rw [ha a (Nat.le_refl _) (by omega)]; exact h1, h2⟩
    rcases h with ⟨k, h⟩ | ⟨k, h⟩ | ⟨k, h, h'⟩ | ⟨k, h, h'⟩ | ⟨k, h, h'⟩ | ⟨k, h, h'⟩ | ⟨k, r, m, hp, h, s, h2⟩ | ⟨k, r, m, hp, s1, h, s2, h2⟩ | ⟨k, r, hp, s1, h⟩
    · exact .inl ⟨k, chain_alike (frag_le n) (frag_alike n) h ha⟩
    · exact .inr (.inl ⟨k, alts_alike (frag_le n) (frag_alike n) h ha⟩)
    · exact .inr (.inr (.inl ⟨k, h, one h h'⟩))
    · exact .inr (.inr (.inr (.inl ⟨k, h, one h h'⟩)))
    · exact .inr (.inr (.inr (.inr (.inl ⟨k, h, one h h'⟩))))
    · exact .inr (.inr (.inr (.inr (.inr (.inl ⟨k, h, one h h'⟩)))))
    · have := frag_le n _ _ _ h
      exact .inr (.inr (.inr (.inr (.inr (.inr (.inl ⟨k, r, m, hp, frag_alike n _ _ _ h (ha.sub (Nat.le_refl _) (by omega)), s.alike ha (by omega) (by omega), h2⟩))))))
    · have := frag_le n _ _ _ h
      exact .inr (.inr (.inr (.inr (.inr (.inr (.inr (.inl ⟨k, r, m, hp, s1.alike ha (Nat.le_refl _) (by omega), frag_alike n _ _ _ h (ha.sub (by omega) (by omega)), s2.alike ha (by omega) (by omega), h2⟩)))))))
    · have := frag_le n _ _ _ h
      exact .inr (.inr (.inr (.inr (.inr (.inr (.inr (.inr ⟨k, r, hp, s1.alike ha (Nat.le_refl _) (by omega), frag_alike n _ _ _ h (ha.sub (by omega) (Nat.le_refl _))⟩)))))))
def Laid (n : Nat) (p : List T_regex_step) (x : T_pc) (q : List T_regex_step) : Prop := Alike p q 0 p.length ∧ Frag n q x p.length q.length
def LaidAll (n : Nat) : Prop := ∀ (x : T_pc) (j : Nat), WF j x → wt x ≤ n → ∀ (k : Nat) (t t' : T_pc) (p q : List T_regex_step), V p → p.length + 4 * wt x ≤ 1000000 → 4 * wt x ≤ k → regex_Expr_compile.f k ⟨t, p⟩ x = some ⟨t', q⟩ → Laid n p x q
theorem alike_refl (p : List T_regex_step) (a e : Nat) : Alike p p a e := fun _ _ _ => rfl
theorem Alike.trans {p q r : List T_regex_step} {a e : Nat} (h : Alike p q a e) (h2 : Alike q r a e) : Alike p r a e := fun i h3 h4 => (h2 i h3 h4).trans (h i h3 h4)
theorem alike_app (p : List T_regex_step) (s : List T_regex_step) : Alike p (p ++ s) 0 p.length := fun i _ hi => List.getElem?_append_left hi
theorem alike_set (p : List T_regex_step) (j : Nat) (s : T_regex_step) {a e : Nat} (h : j < a ∨ e ≤ j) : Alike p (p.set j s) a e := fun i h1 h2 => by
  rw [List.getElem?_set, if_neg (by omega)]
theorem laid_l0 {n : Nat} (ih : LaidAll n) (x1 : T_pc) {j : Nat} (hw : ∀ y ∈ x1.parts, WF j y) (hn : wts x1.parts ≤ n) (hlen : x1.parts.length ≤ 1000000) :
    ∀ (k i : Nat) (t : T_pc) (p : List T_regex_step), i ≤ x1.parts.length → 4 * wts (x1.parts.drop i) + 1 ≤ k → V p → p.length + 4 * wts (x1.parts.drop i) ≤ 1000000 →
      ∃ q, regex_Expr_compile.l0 k x1 (i : Int) t.kind t.parts t.spans t.not p = some (t.kind, t.parts, t.spans, t.not, q) ∧ Alike p q 0 p.length ∧ chain (Frag n q) (x1.parts.drop i) p.length q.length
  | 0, _, _, _, _, h, _, _ => by omega
  | k + 1, i, t, p, hi, hk, hV, hb => by
    rw [regex_Expr_compile.l0]
    by_cases hlt : i < x1.parts.length
    · rw [if_pos (by omega), lat_nat, List.getElem?_eq_getElem hlt]
      simp only [obs]
      have hd := wts_drop (l := x1.parts) (i := i) (x := x1.parts[i]) (by simp [hlt])
      have hmem : x1.parts[i] ∈ x1.parts := List.getElem_mem hlt
      have hle := wt_mem hmem
      have hp1 := wt_pos x1.parts[i]
      obtain ⟨q, e, h1, h2, h3⟩ := comp_ok (hw _ hmem) (k := k) (t := ⟨t.kind, t.parts, t.spans, t.not⟩) (p := p) (by omega) hV (by omega)
      obtain ⟨a1, a2⟩ := ih x1.parts[i] j (hw _ hmem) (by omega) k _ _ p q hV (by omega) (by omega) e
      rw [e]
      simp only [obs]
      rw [i64_id (by omega) (by omega), show ((i : Int) + 1) = ((i + 1 : Nat) : Int) by omega]
      obtain ⟨q2, e2, h4, h5⟩ := laid_l0 ih x1 hw hn hlen k (i + 1) t q (by omega) (by omega) h1 (by omega)
      refine ⟨q2, e2, a1.trans (h4.sub (Nat.le_refl _) h2), ?_⟩
      rw [List.drop_eq_getElem_cons hlt]
      exact ⟨q.length, frag_alike n _ _ _ a2 (h4.sub (Nat.zero_le _) (Nat.le_refl _)), h5⟩
    · rw [if_neg (by omega)]
      refine ⟨p, rfl, alike_refl _ _ _, ?_⟩
      rw [List.drop_eq_nil_of_le (by omega)]
      rfl
def altsJ (p : List T_regex_step) (F : T_pc → Nat → Nat → Prop) : List T_pc → Nat → Nat → List Nat → Prop
  | [], _, _, _ => False
  | [x], a, e, js => js = [] ∧ F x a e
  | x :: y :: r, a, e, js => ∃ m js', js = m :: js' ∧ split p a (a + 1) (m + 1) ∧ F x (a + 1) m ∧ (∃ s, p[m]? = some s ∧ s.op = 1) ∧ altsJ p F (y :: r) (m + 1) e js'
theorem altsJ_js {p : List T_regex_step} {F : T_pc → Nat → Nat → Prop} (hF : ∀ x a e, F x a e → a ≤ e) : ∀ {l a e js}, altsJ p F l a e js → a ≤ e ∧ ∀ j ∈ js, a < j ∧ j < e
  | [], _, _, _, h => h.elim
  | [x], _, _, _, ⟨h1, h2⟩ => by subst h1; exact ⟨hF _ _ _ h2, fun _ h => by cases h⟩
  | x :: y :: r, a, e, js, ⟨m, js', h1, _, h2, _, h3⟩ => by
    subst h1
    have l1 := hF _ _ _ h2
    obtain ⟨l2, l3⟩ := altsJ_js hF h3
    refine ⟨by omega, fun j hj => ?_⟩
    rcases List.mem_cons.1 hj with rfl | hj
    · omega
    · have := l3 j hj; omega
def Patched (q q' : List T_regex_step) (js : List Nat) (E : Nat) : Prop := q'.length = q.length ∧ (∀ i, i ∉ js → q'[i]? = q[i]?) ∧ ∀ m ∈ js, ∀ s, q[m]? = some s → ∃ s', q'[m]? = some s' ∧ s'.op = s.op ∧ s'.to_ = ((E : Int), (E : Int))
theorem altsJ_patch {q q' : List T_regex_step} {E : Nat} {F G : T_pc → Nat → Nat → Prop} (hF : ∀ x a e, F x a e → a ≤ e) (hG : ∀ x a e, F x a e → Alike q q' a e → G x a e) :
    ∀ {l a js js0}, altsJ q F l a E js → Patched q q' js0 E → (∀ j ∈ js, j ∈ js0) → (∀ j ∈ js0, j ∈ js ∨ j < a) → alts q' G l a E
  | [], _, _, _, h, _, _, _ => h.elim
  | [x], a, js, js0, ⟨h1, h2⟩, hp, _, h4 => by
    subst h1
    refine hG _ _ _ h2 fun i hi _ => hp.2.1 i fun hj => ?_
    rcases h4 i hj with h | h
    · cases h
    · omega
  | x :: y :: r, a, js, js0, ⟨m, js', h1, ⟨s, s1, s2⟩, h2, ⟨u, u1, u2⟩, h3⟩, hp, h4, h5 => by
    subst h1
    have l1 := hF _ _ _ h2
    obtain ⟨l2, l3⟩ := altsJ_js hF h3
    have out : ∀ i, a ≤ i → i < m → i ∉ js0 := fun i hi him hj => by
      rcases h5 i hj with h | h
      · rcases List.mem_cons.1 h with rfl | h
        · omega
        · have := l3 i h; omega
      · omega
    refine ⟨m, ⟨s, by rw [hp.2.1 a (out a (Nat.le_refl _) (by omega))]; exact s1, s2⟩, hG _ _ _ h2 (fun i hi him => hp.2.1 i (out i (by omega) him)), ?_, altsJ_patch hF hG h3 hp (fun j hj => h4 j (List.mem_cons_of_mem _ hj)) (fun j hj => ?_)⟩
    · obtain ⟨u', v1, v2, v3⟩ := hp.2.2 m (h4 m (List.mem_cons_self ..)) u u1
      exact ⟨u', v1, by rw [v2, u2], v3⟩
    · rcases h5 j hj with h | h
      · rcases List.mem_cons.1 h with rfl | h
        · exact .inr (by omega)
        · exact .inl h
      · exact .inr (by omega)
theorem patch_l1 (js : List Nat) (hnd : js.Nodup) : ∀ (k i : Nat) (p q0 : List T_regex_step), i ≤ js.length → js.length < k + i → (∀ j ∈ js, j < p.length) → p.length ≤ 1000000 → js.length ≤ 1000000 → Patched q0 p (js.take i) p.length →
    ∃ q, regex_Expr_choices.l1 k (js.map fun (j : Nat) => (j : Int)) (i : Int) p = some q ∧ Patched q0 q js p.length
  | 0, _, _, _, _, h, _, _, _, _ => by omega
  | k + 1, i, p, q0, hi, hk, hj, hb, hb2, hp => by
    rw [regex_Expr_choices.l1, List.length_map]
    by_cases hlt : i < js.length
    · rw [if_pos (by omega), lat_nat, List.getElem?_eq_getElem (by rw [List.length_map]; exact hlt), obs, List.getElem_map]
      have h1 := hj js[i] (List.getElem_mem hlt)
      rw [lat_nat, List.getElem?_eq_getElem h1, obs, Int.toNat_natCast]
      rw [i64_id (by omega) (by omega), show ((i : Int) + 1) = ((i + 1 : Nat) : Int) by omega]
      have htk : js.take (i + 1) = js.take i ++ [js[i]] := by rw [List.take_succ_eq_append_getElem hlt]
      have hni : js[i] ∉ js.take i := by
        intro hm
        obtain ⟨m, hm1, hm2⟩ := List.getElem_of_mem hm
        rw [List.length_take] at hm1
        rw [List.getElem_take] at hm2
        exact List.pairwise_iff_getElem.1 hnd m i (by omega) hlt (by omega) hm2
      obtain ⟨q, e2, h2⟩ := patch_l1 js hnd k (i + 1) (p.set js[i] ⟨p[js[i]].op, p[js[i]].spans, p[js[i]].all, p[js[i]].not, ((p.length : Int), (p.length : Int))⟩) q0 (by omega) (by omega) (fun j hjm => by rw [List.length_set]; exact hj j hjm) (by rw [List.length_set]; exact hb) hb2 (by
        rw [List.length_set]
        refine ⟨by rw [List.length_set]; exact hp.1, fun x hx => ?_, fun m hm s hs => ?_⟩
        · rw [htk, List.mem_append, List.mem_singleton] at hx
          rw [List.getElem?_set, if_neg (fun h => hx (.inr h.symm))]
          exact hp.2.1 x fun h => hx (.inl h)
        · rw [htk, List.mem_append, List.mem_singleton] at hm
          by_cases hmi : m = js[i]
          · subst hmi
            have hpe : p[js[i]]? = q0[js[i]]? := hp.2.1 _ hni
            rw [hs, List.getElem?_eq_getElem h1] at hpe
            refine ⟨_, by rw [List.getElem?_set, if_pos rfl, if_pos h1], ?_, rfl⟩
            rw [Option.some.inj hpe]
          · rw [List.getElem?_set, if_neg (fun h => hmi h.symm)]
            exact hp.2.2 m (hm.resolve_right hmi) s hs)
      rw [List.length_set] at h2
      exact ⟨q, e2, h2⟩
    · rw [if_neg (by omega)]
      rw [List.take_of_length_le (by omega)] at hp
      exact ⟨p, rfl, hp⟩
theorem laid_ch0 {n : Nat} (ih : LaidAll n) (x1 : List T_pc) (hw : ∀ y ∈ x1, WF 1 y) (hn : wts x1 ≤ n) (hlen : x1.length ≤ 1000000) :
    ∀ (k i : Nat) (js : List Nat) (t : T_pc) (p : List T_regex_step), i < x1.length → 4 * wts (x1.drop i) + 1 ≤ k → V p → p.length + 4 * wts (x1.drop i) ≤ 1000000 → js.length ≤ i →
      ∃ js' q, regex_Expr_choices.l0 k x1 (js.map fun (j : Nat) => (j : Int)) (i : Int) t.kind t.parts t.spans t.not p = some ((js ++ js').map (fun (j : Nat) => (j : Int)), t.kind, t.parts, t.spans, t.not, q) ∧ V q ∧ q.length ≤ p.length + 4 * wts (x1.drop i) ∧ Alike p q 0 p.length ∧ altsJ q (Frag n q) (x1.drop i) p.length q.length js' ∧ js'.length ≤ x1.length
  | 0, _, _, _, _, _, h, _, _, _ => by omega
  | k + 1, i, js, t, p, hi, hk, hV, hb, hjl => by
    rw [regex_Expr_choices.l0, if_pos (by omega), lat_nat, List.getElem?_eq_getElem hi]
    simp only [obs]
    have hd := wts_drop (l := x1) (i := i) (x := x1[i]) (by simp [hi])
    have hmem : x1[i] ∈ x1 := List.getElem_mem hi
    have hle := wt_mem hmem
    have hp1 := wt_pos x1[i]
    have hxl := wts_len (x1.drop i)
    rw [List.length_drop] at hxl
    have hxl2 := wts_len (x1.drop (i + 1))
    rw [List.length_drop] at hxl2
    rw [i64_id (by omega) (by omega)]
    have hdr : x1.drop i = x1[i] :: x1.drop (i + 1) := List.drop_eq_getElem_cons hi
    by_cases hlast : (i : Int) = (x1.length : Int) - 1
    · rw [if_pos hlast]
      obtain ⟨q, e, h1, h2, h3⟩ := comp_ok (hw _ hmem) (k := k) (t := ⟨t.kind, t.parts, t.spans, t.not⟩) (p := p) (by omega) hV (by omega)
      obtain ⟨a1, a2⟩ := ih x1[i] 1 (hw _ hmem) (by omega) k _ _ p q hV (by omega) (by omega) e
      rw [e]
      have hnil : x1.drop (i + 1) = [] := List.drop_eq_nil_of_le (by omega)
      exact ⟨[], q, by rw [List.append_nil]; rfl, h1, by omega, a1, by rw [hdr, hnil]; exact ⟨rfl, a2⟩, Nat.zero_le _⟩
    · rw [if_neg hlast, put_ok _ (by omega)]
      simp only [obs]
      have hV1 : V (p ++ [⟨1, [], false, false, (0, 0)⟩]) := hV.app ⟨⟨.inr (.inl rfl), Nat.zero_le _⟩, ⟨Int.le_refl _, Int.natCast_nonneg _⟩, ⟨Int.le_refl _, Int.natCast_nonneg _⟩⟩
      have e1 : lat (p ++ [(⟨1, [], false, false, (0, 0)⟩ : T_regex_step)]) (p.length : Int) = some ⟨1, [], false, false, (0, 0)⟩ := by
        rw [lat_nat, List.getElem?_append_right (Nat.le_refl _), Nat.sub_self]; rfl
      rw [e1]
      simp only [obs, Int.toNat_natCast]
      have hset : (p ++ [(⟨1, [], false, false, (0, 0)⟩ : T_regex_step)]).set p.length ⟨1, [], false, false, (((p ++ [(⟨1, [], false, false, (0, 0)⟩ : T_regex_step)]).length : Int), 0)⟩ = p ++ [⟨1, [], false, false, ((p.length + 1 : Nat), 0)⟩] := by
        rw [List.set_append_right _ _ (Nat.le_refl _), Nat.sub_self]
        simp
      rw [hset]
      have hV2 : V (p ++ [(⟨1, [], false, false, ((p.length + 1 : Nat), 0)⟩ : T_regex_step)]) := hV.app ⟨⟨.inr (.inl rfl), Nat.zero_le _⟩, ⟨Int.natCast_nonneg _, Int.le_refl _⟩, ⟨Int.le_refl _, Int.natCast_nonneg _⟩⟩
      obtain ⟨q, e2, h1, h2, h3⟩ := comp_ok (hw _ hmem) (k := k) (t := ⟨t.kind, t.parts, t.spans, t.not⟩) (p := p ++ [⟨1, [], false, false, ((p.length + 1 : Nat), 0)⟩]) (by omega) hV2 (by simp; omega)
      obtain ⟨a1, a2⟩ := ih x1[i] 1 (hw _ hmem) (by omega) k _ _ _ q hV2 (by simp; omega) (by omega) e2
      rw [List.length_append, List.length_singleton] at h2 h3 a1 a2
      rw [e2]
      simp only [obs]
      rw [put_ok _ (by omega)]
      simp only [obs]
      have hja : Sp.app 8 (js.map fun (j : Nat) => (j : Int)) [(q.length : Int)] = some ((js ++ [q.length]).map fun (j : Nat) => (j : Int)) := by
        rw [app_small (by simp; omega) (by decide)]
        simp
      rw [hja]
      simp only [obs]
      have hV3 : V (q ++ [⟨1, [], false, false, (0, 0)⟩]) := h1.app ⟨⟨.inr (.inl rfl), Nat.zero_le _⟩, ⟨Int.le_refl _, Int.natCast_nonneg _⟩, ⟨Int.le_refl _, Int.natCast_nonneg _⟩⟩
      have hq0 : q[p.length]? = some ⟨1, [], false, false, ((p.length + 1 : Nat), 0)⟩ := by
        rw [a1 p.length (Nat.zero_le _) (by omega), List.getElem?_append_right (Nat.le_refl _), Nat.sub_self]; rfl
      have e4 : lat (q ++ [(⟨1, [], false, false, (0, 0)⟩ : T_regex_step)]) (p.length : Int) = some ⟨1, [], false, false, ((p.length + 1 : Nat), 0)⟩ := by
        rw [lat_nat, List.getElem?_append_left (by omega)]; exact hq0
      rw [e4]
      simp only [obs]
      rw [i64_id (by omega) (by omega), show ((i : Int) + 1) = ((i + 1 : Nat) : Int) by omega]
      generalize hp4 : (q ++ [(⟨1, [], false, false, (0, 0)⟩ : T_regex_step)]).set p.length ⟨1, [], false, false, (((p.length + 1 : Nat) : Int), ((q ++ [(⟨1, [], false, false, (0, 0)⟩ : T_regex_step)]).length : Int))⟩ = p4
      have hl4 : p4.length = q.length + 1 := by rw [← hp4, List.length_set, List.length_append, List.length_singleton]
      have hV4 : V p4 := by
        rw [← hp4]
        exact hV3.set _ ⟨⟨.inr (.inl rfl), Nat.zero_le _⟩, ⟨Int.natCast_nonneg _, by show (((p.length + 1 : Nat)) : Int) ≤ _; rw [List.length_append, List.length_singleton]; omega⟩, ⟨Int.natCast_nonneg _, Int.le_refl _⟩⟩
      obtain ⟨js', q2, e3, h4, h5, h6, h7, h8⟩ := laid_ch0 ih x1 hw hn hlen k (i + 1) (js ++ [q.length]) ⟨t.kind, t.parts, t.spans, t.not⟩ p4 (by omega) (by omega) hV4 (by omega) (by simp; omega)
      have al1 : Alike q p4 (p.length + 1) q.length := by
        rw [← hp4]
        exact ((alike_app q _).sub (Nat.zero_le _) (Nat.le_refl _)).trans (alike_set _ _ _ (.inl (by omega)))
      have al0 : Alike p q2 0 p.length := by
        refine Alike.trans (alike_app p [⟨1, [], false, false, ((p.length + 1 : Nat), 0)⟩]) ((a1.sub (Nat.le_refl _) (by omega)).trans ?_)
        refine Alike.trans ((alike_app q [(⟨1, [], false, false, (0, 0)⟩ : T_regex_step)]).sub (Nat.le_refl _) (by omega)) ?_
        refine Alike.trans (alike_set _ p.length ⟨1, [], false, false, (((p.length + 1 : Nat) : Int), ((q ++ [(⟨1, [], false, false, (0, 0)⟩ : T_regex_step)]).length : Int))⟩ (.inr (Nat.le_refl _))) ?_
        rw [hp4]
        exact h6.sub (Nat.le_refl _) (by omega)
      have hget1 : q2[p.length]? = some ⟨1, [], false, false, (((p.length + 1 : Nat) : Int), ((q.length + 1 : Nat) : Int))⟩ := by
        rw [h6 p.length (Nat.zero_le _) (by omega), ← hp4, List.getElem?_set, if_pos rfl, if_pos (by simp; omega)]
        simp
      have hget2 : q2[q.length]? = some ⟨1, [], false, false, (0, 0)⟩ := by
        rw [h6 q.length (Nat.zero_le _) (by omega), ← hp4, List.getElem?_set, if_neg (by omega), List.getElem?_append_right (Nat.le_refl _), Nat.sub_self]
        rfl
      refine ⟨q.length :: js', q2, ?_, h4, by omega, al0, ?_, ?_⟩
      · rw [e3]
        simp
      · rw [hdr]
        cases hcs : x1.drop (i + 1) with
        | nil =>
          have := congrArg List.length hcs
          rw [List.length_drop] at this
          simp at this
          omega
        | cons y r =>
          rw [hcs, hl4] at h7
          exact ⟨q.length, js', rfl, ⟨_, hget1, rfl, rfl⟩, frag_alike n _ _ _ a2 (al1.trans (h6.sub (Nat.zero_le _) (by omega))), ⟨_, hget2, rfl⟩, h7⟩
      · have : js'.length ≤ x1.length - (i + 1) := by
          have key : ∀ (l : List T_pc) (a e : Nat) (js : List Nat), altsJ q2 (Frag n q2) l a e js → js.length + 1 ≤ l.length := by
            intro l
            induction l with
            | nil => intro a e js h; exact h.elim
            | cons x l ihl =>
              intro a e js h
              cases l with
              | nil => obtain ⟨rfl, _⟩ := h; simp
              | cons y r =>
                obtain ⟨m, js', rfl, _, _, _, h3⟩ := h
                have := ihl _ _ _ h3
                simp at this ⊢; omega
          have := key _ _ _ _ h7
          rw [List.length_drop] at this
          omega
        simp; omega
theorem altsJ_nodup {p : List T_regex_step} {F : T_pc → Nat → Nat → Prop} (hF : ∀ x a e, F x a e → a ≤ e) : ∀ {l a e js}, altsJ p F l a e js → js.Nodup
  | [], _, _, _, h => h.elim
  | [x], _, _, _, ⟨h1, _⟩ => by subst h1; exact List.nodup_nil
  | x :: y :: r, a, e, js, ⟨m, js', h1, _, h2, _, h3⟩ => by
    subst h1
    refine List.nodup_cons.2 ⟨fun hm => ?_, altsJ_nodup hF h3⟩
    have := (altsJ_js hF h3).2 m hm
    omega
theorem laid_ch {n : Nat} (ih : LaidAll n) {x1 : List T_pc} (hne : x1 ≠ []) (hw : ∀ y ∈ x1, WF 1 y) (hn : wts x1 ≤ n) {k : Nat} {t : T_pc} {p : List T_regex_step} (hk : 4 * wts x1 + 2 ≤ k) (hV : V p) (hb : p.length + 4 * wts x1 ≤ 1000000) :
    ∃ q, regex_Expr_choices.f k ⟨t, p⟩ x1 = some ⟨t, q⟩ ∧ Alike p q 0 p.length ∧ alts q (Frag n q) x1 p.length q.length := by
  cases k with
  | zero => omega
  | succ k =>
    rw [regex_Expr_choices.f]
    have hl : 0 < x1.length := List.length_pos_iff.2 hne
    have hxl := wts_len x1
    obtain ⟨js, q, e, h1, h2, h3, h4, h5⟩ := laid_ch0 ih x1 hw hn (by omega) k 0 [] t p hl (by simp; omega) hV (by simpa using hb) (Nat.le_refl _)
    rw [List.drop_zero] at h2 h4
    rw [show ((0 : Nat) : Int) = 0 from rfl, List.map_nil, List.nil_append] at e
    rw [e]
    simp only [obs]
    have hjs := altsJ_js (frag_le n) h4
    obtain ⟨q2, e2, h6⟩ := patch_l1 js (altsJ_nodup (frag_le n) h4) k 0 q q (Nat.zero_le _) (by omega) (fun j hj => (hjs.2 j hj).2) (by omega) (by omega) ⟨rfl, fun _ _ => rfl, fun _ h => by cases h⟩
    rw [show ((0 : Nat) : Int) = 0 from rfl] at e2
    rw [e2]
    refine ⟨q2, ?_, ?_, ?_⟩
    · simp only [obs, peta]
    · refine h3.trans fun i _ hi => h6.2.1 i fun hj => ?_
      have := (hjs.2 i hj).1
      omega
    · rw [h6.1]
      exact altsJ_patch (frag_le n) (fun x a e hf ha => frag_alike n x a e hf ha) h4 h6 (fun _ h => h) (fun j hj => .inl hj)
theorem laid_n (n : Nat) (ih : LaidAll n) : LaidAll (n + 1) := by
  intro x j hx hn k t t' p q hV hb hk h
  have hp1 := wt_pos x
  cases k with
  | zero => omega
  | succ k =>
    rw [regex_Expr_compile.f] at h
    have put1 : ∀ (s : T_regex_step), ((regex_Expr_put.f k ⟨t, p⟩ s).bind fun y => some y.2) = some ⟨t', q⟩ → Alike p q 0 p.length ∧ q.length = p.length + 1 ∧ q[p.length]? = some s := by
      intro s h
      rw [put_ok s (by omega)] at h
      simp only [obs, Option.some.injEq, T_regex_Expr.mk.injEq] at h
      obtain ⟨_, rfl⟩ := h
      exact ⟨alike_app _ _, by simp, by rw [List.getElem?_append_right (Nat.le_refl _), Nat.sub_self]; rfl⟩
    have chs : ∀ ps : List T_pc, ps ≠ [] → (∀ y ∈ ps, WF 1 y) → wts ps ≤ n → 4 * wts ps + 2 ≤ k → p.length + 4 * wts ps ≤ 1000000 → ((regex_Expr_choices.f k ⟨t, p⟩ ps).bind fun y => some y) = some ⟨t', q⟩ → Alike p q 0 p.length ∧ alts q (Frag n q) ps p.length q.length := by
      intro ps hne hw hn' hk' hb' h
      obtain ⟨q', e, h1, h2⟩ := laid_ch ih hne hw hn' hk' hV hb' (t := t)
      rw [e] at h
      simp only [obs, Option.some.injEq, T_regex_Expr.mk.injEq] at h
      obtain ⟨_, rfl⟩ := h
      exact ⟨h1, h2⟩
    have n01 : ¬ (1 : Int) = 0 := by decide
    cases hx with
    | num hm =>
      obtain ⟨h1, h2, h3⟩ := put1 _ h
      exact ⟨h1, .inr (.inr (.inl ⟨.inl rfl, h2, _, h3, rfl, rfl, rfl, rfl⟩))⟩
    | any =>
      obtain ⟨h1, h2, h3⟩ := put1 _ h
      exact ⟨h1, .inr (.inr (.inr (.inl ⟨rfl, h2, _, h3, rfl, rfl⟩)))⟩
    | start =>
      obtain ⟨h1, h2, h3⟩ := put1 _ h
      exact ⟨h1, .inr (.inr (.inr (.inr (.inl ⟨rfl, h2, _, h3, rfl⟩))))⟩
    | stop =>
      obtain ⟨h1, h2, h3⟩ := put1 _ h
      exact ⟨h1, .inr (.inr (.inr (.inr (.inr (.inl ⟨rfl, h2, _, h3, rfl⟩)))))⟩
    | set hs1 hs2 =>
      obtain ⟨h1, h2, h3⟩ := put1 _ h
      exact ⟨h1, .inr (.inr (.inl ⟨.inr rfl, h2, _, h3, rfl, rfl, rfl, rfl⟩))⟩
    | par hc =>
      cases hc with
      | choice hne hw =>
        rename_i ps
        simp only [wt, List.length_nil] at hn hk hb
        simp only [if_neg n01, if_true] at h
        obtain ⟨h1, h2⟩ := chs ps hne hw (by omega) (by omega) (by omega) h
        exact ⟨h1, .inr (.inl ⟨rfl, h2⟩)⟩
    | choice hne hw =>
      rename_i ps
      simp only [wt, List.length_nil] at hn hk hb
      simp only [if_neg n01, if_true] at h
      obtain ⟨h1, h2⟩ := chs ps hne hw (by omega) (by omega) (by omega) h
      exact ⟨h1, .inr (.inl ⟨rfl, h2⟩)⟩
    | row hw =>
      rename_i ps
      simp only [wt, List.length_nil] at hn hk hb
      obtain ⟨q', e, h1, h2⟩ := laid_l0 ih ⟨0, ps, [], false⟩ hw (by show wts ps ≤ n; omega) (by have := wts_len ps; show ps.length ≤ _; omega) k 0 t p (Nat.zero_le _) (by show 4 * wts (ps.drop 0) + 1 ≤ k; rw [List.drop_zero]; omega) hV (by show p.length + 4 * wts (ps.drop 0) ≤ _; rw [List.drop_zero]; omega)
      rw [show ((0 : Nat) : Int) = 0 from rfl] at e
      simp only [if_true, e, obs, Option.some.injEq, T_regex_Expr.mk.injEq] at h
      obtain ⟨_, rfl⟩ := h
      rw [List.drop_zero] at h2
      exact ⟨h1, .inl ⟨rfl, h2⟩⟩
    | rep hkk hq =>
      rename_i c r
      simp only [wt, wts, List.length_nil] at hn hk hb
      have hr1 := wt_pos r
      have hl0 : lat [r] 0 = some r := rfl
      have e0 : ∀ q : List T_regex_step, ∀ s : T_regex_step, lat (q ++ [s]) (q.length : Int) = some s := fun q s => by
        rw [lat_nat, List.getElem?_append_right (Nat.le_refl _), Nat.sub_self]; rfl
      have eset : ∀ (q : List T_regex_step) (u s : T_regex_step), (q ++ [u]).set q.length s = q ++ [s] := fun q u s => by
        rw [List.set_append_right _ _ (Nat.le_refl _), Nat.sub_self]; rfl
      by_cases h8 : c = 8
      · subst h8
        obtain ⟨q1, e, h1, h2, h3⟩ := comp_ok hq (k := k) (t := t) (p := p) (by omega) hV (by omega)
        obtain ⟨a1, a2⟩ := ih r 0 hq (by omega) k _ _ p q1 hV (by omega) (by omega) e
        have f0 : ¬ (8 : Int) = 0 := by decide
        have f1 : ¬ (8 : Int) = 1 := by decide
        have f2 : ¬ (8 : Int) = 2 := by decide
        have f3 : ¬ (8 : Int) = 3 := by decide
        have f5 : ¬ (8 : Int) = 5 := by decide
        have f6 : ¬ (8 : Int) = 6 := by decide
        have f4 : ((8 : Int) == 4) = false := by decide
        simp only [if_neg f0, if_neg f1, if_neg f2, if_neg f3, if_neg f5, if_neg f6, f4, obs, Bool.false_eq_true, if_false, if_true, hl0, e] at h
        rw [put_ok _ (by omega)] at h
        simp only [obs, e0, Int.toNat_natCast, eset, Option.some.injEq, T_regex_Expr.mk.injEq] at h
        obtain ⟨_, rfl⟩ := h
        refine ⟨a1.trans ((alike_app q1 _).sub (Nat.le_refl _) h2), .inr (.inr (.inr (.inr (.inr (.inr (.inl ⟨rfl, r, q1.length, rfl, frag_alike n _ _ _ a2 ((alike_app q1 _).sub (Nat.zero_le _) (Nat.le_refl _)), ⟨_, by rw [List.getElem?_append_right (Nat.le_refl _), Nat.sub_self]; rfl, rfl, ?_⟩, by simp⟩))))))⟩
        simp
      · have hc79 : c = 7 ∨ c = 9 := by omega
        have f0 : ¬ c = 0 := by omega
        have f1 : ¬ c = 1 := by omega
        have f2 : ¬ c = 2 := by omega
        have f3 : ¬ c = 3 := by omega
        have f5 : ¬ c = 5 := by omega
        have f6 : ¬ c = 6 := by omega
        have f4 : (c == 4) = false := by simp; omega
        simp only [if_neg f0, if_neg f1, if_neg f2, if_neg f3, if_neg f5, if_neg f6, if_neg h8, f4, obs, Bool.false_eq_true, if_false] at h
        rw [put_ok _ (by omega)] at h
        simp only [obs, e0, Int.toNat_natCast, eset, hl0] at h
        have hlen1 : ((p ++ [(⟨1, [], false, false, (0, 0)⟩ : T_regex_step)]).length : Int) = ((p.length + 1 : Nat) : Int) := by simp
        rw [hlen1] at h
        have hV2 : V (p ++ [(⟨1, [], false, false, ((p.length + 1 : Nat), 0)⟩ : T_regex_step)]) := hV.app ⟨⟨.inr (.inl rfl), Nat.zero_le _⟩, ⟨Int.natCast_nonneg _, Int.le_refl _⟩, ⟨Int.le_refl _, Int.natCast_nonneg _⟩⟩
        obtain ⟨q1, e, h1, h2, h3⟩ := comp_ok hq (k := k) (t := t) (p := p ++ [⟨1, [], false, false, ((p.length + 1 : Nat), 0)⟩]) (by omega) hV2 (by simp; omega)
        obtain ⟨a1, a2⟩ := ih r 0 hq (by omega) k _ _ _ q1 hV2 (by simp; omega) (by omega) e
        rw [List.length_append, List.length_singleton] at h2 h3 a1 a2
        rw [e, obs] at h
        have hq1 : q1[p.length]? = some ⟨1, [], false, false, ((p.length + 1 : Nat), 0)⟩ := by
          rw [a1 p.length (Nat.zero_le _) (by omega), List.getElem?_append_right (Nat.le_refl _), Nat.sub_self]; rfl
        have al0 : Alike p q1 0 p.length := (alike_app p _).trans (a1.sub (Nat.le_refl _) (by omega))
        by_cases h7 : c = 7
        · subst h7
          rw [if_pos rfl, put_ok _ (by omega)] at h
          simp only [obs, e0, Int.toNat_natCast, eset] at h
          have e5 : lat (q1 ++ [(⟨1, [], false, false, ((p.length : Int), (p.length : Int))⟩ : T_regex_step)]) (p.length : Int) = some ⟨1, [], false, false, ((p.length + 1 : Nat), 0)⟩ := by
            rw [lat_nat, List.getElem?_append_left (by omega)]; exact hq1
          rw [e5] at h
          simp only [obs, Option.some.injEq, T_regex_Expr.mk.injEq] at h
          obtain ⟨_, rfl⟩ := h
          generalize hs0 : (⟨1, [], false, false, (((p.length + 1 : Nat) : Int), ((q1 ++ [(⟨1, [], false, false, ((p.length : Int), (p.length : Int))⟩ : T_regex_step)]).length : Int))⟩ : T_regex_step) = s0
          have g1 : ((q1 ++ [(⟨1, [], false, false, ((p.length : Int), (p.length : Int))⟩ : T_regex_step)]).set p.length s0)[p.length]? = some s0 := by
            rw [List.getElem?_set, if_pos rfl, if_pos (by simp; omega)]
          have g2 : ((q1 ++ [(⟨1, [], false, false, ((p.length : Int), (p.length : Int))⟩ : T_regex_step)]).set p.length s0)[q1.length]? = some ⟨1, [], false, false, ((p.length : Int), (p.length : Int))⟩ := by
            rw [List.getElem?_set, if_neg (by omega), List.getElem?_append_right (Nat.le_refl _), Nat.sub_self]; rfl
          refine ⟨al0.trans (((alike_app q1 _).sub (Nat.le_refl _) (by omega)).trans (alike_set _ _ _ (.inr (Nat.le_refl _)))), .inr (.inr (.inr (.inr (.inr (.inr (.inr (.inl ⟨rfl, r, q1.length, rfl, ⟨s0, g1, by rw [← hs0], by rw [← hs0]; simp⟩, frag_alike n _ _ _ a2 (((alike_app q1 _).sub (Nat.zero_le _) (Nat.le_refl _)).trans (alike_set _ _ _ (.inl (by omega)))), ⟨_, g2, rfl, rfl⟩, by simp⟩)))))))⟩
        · obtain rfl : c = 9 := by omega
          rw [if_neg h7] at h
          simp only [obs] at h
          have e5 : lat q1 (p.length : Int) = some ⟨1, [], false, false, ((p.length + 1 : Nat), 0)⟩ := by rw [lat_nat]; exact hq1
          rw [e5] at h
          simp only [obs, Int.toNat_natCast, Option.some.injEq, T_regex_Expr.mk.injEq] at h
          obtain ⟨_, rfl⟩ := h
          generalize hs0 : (⟨1, [], false, false, (((p.length + 1 : Nat) : Int), (q1.length : Int))⟩ : T_regex_step) = s0
          have g1 : (q1.set p.length s0)[p.length]? = some s0 := by
            rw [List.getElem?_set, if_pos rfl, if_pos (by omega)]
          refine ⟨al0.trans (alike_set _ _ _ (.inr (Nat.le_refl _))), .inr (.inr (.inr (.inr (.inr (.inr (.inr (.inr ⟨rfl, r, rfl, ⟨s0, g1, by rw [← hs0], by rw [← hs0, List.length_set]⟩, ?_⟩)))))))⟩
          rw [List.length_set]
          exact frag_alike n _ _ _ a2 (alike_set _ _ _ (.inl (by omega)))
theorem laid_all : ∀ n, LaidAll n
  | 0 => fun x _ _ h => by have := wt_pos x; omega
  | n + 1 => laid_n n (laid_all n)
end Go.Proofs.YtafnenafbognkaaGreatDoor
namespace Go.Proofs.YtafnenafbognkaaGreatDoor
open Sp
set_option maxRecDepth 100000
set_option maxHeartbeats 4000000
inductive Star (R : Nat → Nat → Prop) : Nat → Nat → Prop
  | refl (i : Nat) : Star R i i
  | step {i j k : Nat} : R i j → Star R j k → Star R i k
def schain (S : T_pc → Nat → Nat → Prop) : List T_pc → Nat → Nat → Prop
  | [], i, j => i = j
  | x :: xs, i, j => ∃ m, S x i m ∧ schain S xs m j
def inS (x : T_pc) (v : Int) : Bool := if x.spans.any (fun y => decide (v ≥ y.from_) && decide (v ≤ y.to_)) then !x.not else x.not
def Sem : Nat → List Int → T_pc → Nat → Nat → Prop
  | 0, _, _, _, _ => False
  | n + 1, l, x, i, j =>
    (x.kind = 0 ∧ schain (Sem n l) x.parts i j) ∨
    (x.kind = 1 ∧ ∃ y ∈ x.parts, Sem n l y i j) ∨
    ((x.kind = 2 ∨ x.kind = 4) ∧ j = i + 1 ∧ ∃ v, l[i]? = some v ∧ inS x v = true) ∨
    (x.kind = 3 ∧ j = i + 1 ∧ i < l.length) ∨
    (x.kind = 5 ∧ j = i ∧ i = 0) ∨
    (x.kind = 6 ∧ j = i ∧ i = l.length) ∨
    (x.kind = 8 ∧ ∃ q m, x.parts = [q] ∧ Sem n l q i m ∧ Star (Sem n l q) m j) ∨
    (x.kind = 7 ∧ ∃ q, x.parts = [q] ∧ Star (Sem n l q) i j) ∨
    (x.kind = 9 ∧ ∃ q, x.parts = [q] ∧ (i = j ∨ Sem n l q i j))
def St (p : List T_regex_step) (l : List Int) (a i b j : Nat) : Prop :=
  (j = i ∧ eps p (i : Int) (l.length : Int) a b) ∨ (j = i + 1 ∧ b = a + 1 ∧ ∃ s x, p[a]? = some s ∧ s.op = 0 ∧ l[i]? = some x ∧ tk s x = true)
inductive Pa (p : List T_regex_step) (l : List Int) : Nat → Nat → Nat → Nat → Nat → Prop
  | nil (a i : Nat) : Pa p l 0 a i a i
  | cons {N a i b j c k : Nat} : St p l a i b j → Pa p l N b j c k → Pa p l (N + 1) a i c k
theorem Pa.trans {p : List T_regex_step} {l : List Int} {N M a i b j c k : Nat} (h : Pa p l N a i b j) (h2 : Pa p l M b j c k) : Pa p l (N + M) a i c k := by
  induction h with
  | nil => rw [Nat.zero_add]; exact h2
  | cons h1 _ ih =>
    rename_i N' _ _ _ _ _ _ _
    rw [show N' + 1 + M = (N' + M) + 1 by omega]
    exact .cons h1 (ih h2)
theorem Pa.one {p : List T_regex_step} {l : List Int} {a i b j : Nat} (h : St p l a i b j) : Pa p l 1 a i b j := .cons h (.nil _ _)
theorem St.split {p : List T_regex_step} {l : List Int} {a b c : Nat} (h : split p a b c) {i d j : Nat} : St p l a i d j ↔ i = j ∧ (d = b ∨ d = c) := by
  obtain ⟨s, h1, h2, h3⟩ := h
  constructor
  · rintro (⟨rfl, u, e1, e2⟩ | ⟨_, _, u, _, e1, e2, _⟩)
    · rw [h1] at e1
      obtain rfl := Option.some.inj e1
      refine ⟨rfl, ?_⟩
      rcases e2 with ⟨_, e2⟩ | ⟨e2, _⟩ | ⟨e2, _⟩
      · rw [h3] at e2
        rcases e2 with e2 | e2
        · left; simp only at e2; omega
        · right; simp only at e2; omega
      · rw [h2] at e2; exact absurd e2 (by decide)
      · rw [h2] at e2; exact absurd e2 (by decide)
    · rw [h1] at e1
      obtain rfl := Option.some.inj e1
      rw [h2] at e2; exact absurd e2 (by decide)
  · rintro ⟨rfl, hd⟩
    refine .inl ⟨rfl, s, h1, .inl ⟨h2, ?_⟩⟩
    rw [h3]
    rcases hd with rfl | rfl
    · exact .inl rfl
    · exact .inr rfl
theorem St.op0 {p : List T_regex_step} {l : List Int} {a : Nat} {s : T_regex_step} (h1 : p[a]? = some s) (h2 : s.op = 0) {i d j : Nat} : St p l a i d j ↔ j = i + 1 ∧ d = a + 1 ∧ ∃ x, l[i]? = some x ∧ tk s x = true := by
  constructor
  · rintro (⟨_, u, e1, e2⟩ | ⟨e0, e1, u, x, e2, _, e3, e4⟩)
    · rw [h1] at e1
      obtain rfl := Option.some.inj e1
      rcases e2 with ⟨e2, _⟩ | ⟨e2, _⟩ | ⟨e2, _⟩ <;> (rw [h2] at e2; exact absurd e2 (by decide))
    · rw [h1] at e2
      obtain rfl := Option.some.inj e2
      exact ⟨e0, e1, x, e3, e4⟩
  · rintro ⟨e0, e1, x, e3, e4⟩
    exact .inr ⟨e0, e1, s, x, h1, h2, e3, e4⟩
theorem St.op2 {p : List T_regex_step} {l : List Int} {a : Nat} {s : T_regex_step} (h1 : p[a]? = some s) (h2 : s.op = 2) {i d j : Nat} : St p l a i d j ↔ j = i ∧ d = a + 1 ∧ i = 0 := by
  constructor
  · rintro (⟨e0, u, e1, e2⟩ | ⟨_, _, u, x, e2, e3, _⟩)
    · rw [h1] at e1
      obtain rfl := Option.some.inj e1
      rcases e2 with ⟨e2, _⟩ | ⟨_, e2, e3⟩ | ⟨e2, _⟩
      · rw [h2] at e2; exact absurd e2 (by decide)
      · exact ⟨e0, e3, by omega⟩
      · rw [h2] at e2; exact absurd e2 (by decide)
    · rw [h1] at e2
      obtain rfl := Option.some.inj e2
      rw [h2] at e3; exact absurd e3 (by decide)
  · rintro ⟨e0, e1, e2⟩
    exact .inl ⟨e0, s, h1, .inr (.inl ⟨h2, by omega, e1⟩)⟩
theorem St.op3 {p : List T_regex_step} {l : List Int} {a : Nat} {s : T_regex_step} (h1 : p[a]? = some s) (h2 : s.op = 3) {i d j : Nat} : St p l a i d j ↔ j = i ∧ d = a + 1 ∧ i = l.length := by
  constructor
  · rintro (⟨e0, u, e1, e2⟩ | ⟨_, _, u, x, e2, e3, _⟩)
    · rw [h1] at e1
      obtain rfl := Option.some.inj e1
      rcases e2 with ⟨e2, _⟩ | ⟨e2, _⟩ | ⟨_, e2, e3⟩
      · rw [h2] at e2; exact absurd e2 (by decide)
      · rw [h2] at e2; exact absurd e2 (by decide)
      · exact ⟨e0, e3, by omega⟩
    · rw [h1] at e2
      obtain rfl := Option.some.inj e2
      rw [h2] at e3; exact absurd e3 (by decide)
  · rintro ⟨e0, e1, e2⟩
    exact .inl ⟨e0, s, h1, .inr (.inr ⟨h2, by omega, e1⟩)⟩
theorem Pa.first {p : List T_regex_step} {l : List Int} {N a i d k : Nat} (h : Pa p l N a i d k) (hd : d ≠ a) : ∃ M b j, N = M + 1 ∧ St p l a i b j ∧ Pa p l M b j d k := by
  cases h with
  | nil => exact absurd rfl hd
  | cons h1 h2 => exact ⟨_, _, _, rfl, h1, h2⟩
def Out (p : List T_regex_step) (l : List Int) (F : T_pc → Nat → Nat → Prop) (S : T_pc → Nat → Nat → Prop) : Prop :=
  ∀ x a e, F x a e → ∀ N i d k, Pa p l N a i d k → (d < a ∨ e ≤ d) → ∃ j M, M ≤ N ∧ S x i j ∧ Pa p l M e j d k
theorem out_chain {p : List T_regex_step} {l : List Int} {F S : T_pc → Nat → Nat → Prop} (hF : ∀ x a e, F x a e → a ≤ e) (h : Out p l F S) : ∀ (xs : List T_pc) (a e : Nat), chain F xs a e → ∀ N i d k, Pa p l N a i d k → (d < a ∨ e ≤ d) → ∃ j M, M ≤ N ∧ schain S xs i j ∧ Pa p l M e j d k
  | [], a, e, hc, N, i, d, k, hp, _ => by
    obtain rfl : a = e := hc
    exact ⟨i, N, Nat.le_refl _, rfl, hp⟩
  | x :: xs, a, e, ⟨m, h1, h2⟩, N, i, d, k, hp, hd => by
    have l1 := hF _ _ _ h1
    have l2 := chain_le hF h2
    obtain ⟨j, M, e1, e2, e3⟩ := h x a m h1 N i d k hp (by omega)
    obtain ⟨j2, M2, f1, f2, f3⟩ := out_chain hF h xs m e h2 M j d k e3 (by omega)
    exact ⟨j2, M2, by omega, ⟨j, e2, f2⟩, f3⟩
theorem out_alts {p : List T_regex_step} {l : List Int} {F S : T_pc → Nat → Nat → Prop} (hF : ∀ x a e, F x a e → a ≤ e) (h : Out p l F S) : ∀ (xs : List T_pc) (a e : Nat), alts p F xs a e → ∀ N i d k, Pa p l N a i d k → (d < a ∨ e ≤ d) → ∃ j M, M ≤ N ∧ (∃ y ∈ xs, S y i j) ∧ Pa p l M e j d k
  | [], _, _, hc, _, _, _, _, _, _ => hc.elim
  | [x], a, e, hc, N, i, d, k, hp, hd => by
    obtain ⟨j, M, e1, e2, e3⟩ := h x a e hc N i d k hp hd
    exact ⟨j, M, e1, ⟨x, List.mem_cons_self .., e2⟩, e3⟩
  | x :: y :: r, a, e, ⟨m, s1, h1, s2, h2⟩, N, i, d, k, hp, hd => by
    have l1 := hF _ _ _ h1
    have l2 := alts_le hF h2
    obtain ⟨M, b, j, rfl, hs, hp2⟩ := hp.first (by omega)
    obtain ⟨rfl, hb⟩ := (St.split s1).1 hs
    rcases hb with rfl | rfl
    · obtain ⟨j, M1, e1, e2, e3⟩ := h x (a + 1) m h1 M i d k hp2 (by omega)
      obtain ⟨M2, b, j', rfl, hs2, hp3⟩ := e3.first (by omega)
      obtain ⟨rfl, hb⟩ := (St.split s2).1 hs2
      obtain rfl : b = e := by omega
      exact ⟨j, M2, by omega, ⟨x, List.mem_cons_self .., e2⟩, hp3⟩
    · obtain ⟨j, M1, e1, ⟨z, hz, e2⟩, e3⟩ := out_alts hF h (y :: r) (m + 1) e h2 M i d k hp2 (by omega)
      exact ⟨j, M1, by omega, ⟨z, List.mem_cons_of_mem _ hz, e2⟩, e3⟩
theorem out_star {p : List T_regex_step} {l : List Int} {F S : T_pc → Nat → Nat → Prop} (hF : ∀ x a e, F x a e → a ≤ e) (h : Out p l F S) {q : T_pc} {a m : Nat} (s1 : split p a (a + 1) (m + 1)) (hq : F q (a + 1) m) (s2 : split p m a a) :
    ∀ (N i d k : Nat), Pa p l N a i d k → (d < a ∨ m + 1 ≤ d) → ∃ j M, M ≤ N ∧ Star (S q) i j ∧ Pa p l M (m + 1) j d k := by
  intro N
  induction N using Nat.strongRecOn with
  | ind N ih =>
    intro i d k hp hd
    have l1 := hF _ _ _ hq
    obtain ⟨M, b, j, rfl, hs, hp2⟩ := hp.first (by omega)
    obtain ⟨rfl, hb⟩ := (St.split s1).1 hs
    rcases hb with rfl | rfl
    · obtain ⟨j, M1, e1, e2, e3⟩ := h q (a + 1) m hq M i d k hp2 (by omega)
      obtain ⟨M2, b, j', rfl, hs2, hp3⟩ := e3.first (by omega)
      obtain ⟨rfl, hb⟩ := (St.split s2).1 hs2
      obtain rfl : b = a := by omega
      obtain ⟨j2, M3, f1, f2, f3⟩ := ih M2 (by omega) j d k hp3 hd
      exact ⟨j2, M3, by omega, .step e2 f2, f3⟩
    · exact ⟨i, M, by omega, .refl _, hp2⟩
theorem out_plus {p : List T_regex_step} {l : List Int} {F S : T_pc → Nat → Nat → Prop} (hF : ∀ x a e, F x a e → a ≤ e) (h : Out p l F S) {q : T_pc} {a m : Nat} (hq : F q a m) (s2 : split p m a (m + 1)) :
    ∀ (N i d k : Nat), Pa p l N a i d k → (d < a ∨ m + 1 ≤ d) → ∃ j0 j M, M ≤ N ∧ S q i j0 ∧ Star (S q) j0 j ∧ Pa p l M (m + 1) j d k := by
  intro N
  induction N using Nat.strongRecOn with
  | ind N ih =>
    intro i d k hp hd
    have l1 := hF _ _ _ hq
    obtain ⟨j, M1, e1, e2, e3⟩ := h q a m hq N i d k hp (by omega)
    obtain ⟨M2, b, j', rfl, hs2, hp3⟩ := e3.first (by omega)
    obtain ⟨rfl, hb⟩ := (St.split s2).1 hs2
    rcases hb with rfl | rfl
    · obtain ⟨j0, j2, M3, f1, f2, f3, f4⟩ := ih M2 (by omega) j d k hp3 hd
      exact ⟨j, j2, M3, by omega, e2, .step f2 f3, f4⟩
    · exact ⟨j, j, M2, by omega, e2, .refl _, hp3⟩
theorem tk_in {s : T_regex_step} {x : T_pc} (h1 : s.spans = x.spans) (h2 : s.all = false) (h3 : s.not = x.not) (v : Int) : tk s v = inS x v := by
  unfold tk inS
  rw [h1, h2, h3, Bool.false_or]
theorem frag_out (p : List T_regex_step) (l : List Int) : ∀ n, Out p l (Frag n p) (Sem n l)
  | 0 => fun _ _ _ h => h.elim
  | n + 1 => by
    intro x a e h N i d k hp hd
    have ih := frag_out p l n
    have one : e = a + 1 → ∃ M b j, N = M + 1 ∧ St p l a i b j ∧ Pa p l M b j d k := fun he => hp.first (by omega)
    rcases h with ⟨hk, h⟩ | ⟨hk, h⟩ | ⟨hk, he, s, h1, h2, h3, h4, h5⟩ | ⟨hk, he, s, h1, h2, h3⟩ | ⟨hk, he, s, h1, h2⟩ | ⟨hk, he, s, h1, h2⟩ | ⟨hk, q, m, hq, h1, s2, rfl⟩ | ⟨hk, q, m, hq, s1, h1, s2, rfl⟩ | ⟨hk, q, hq, s1, h1⟩
    · obtain ⟨j, M, e1, e2, e3⟩ := out_chain (frag_le n) ih x.parts a e h N i d k hp hd
      exact ⟨j, M, e1, .inl ⟨hk, e2⟩, e3⟩
    · obtain ⟨j, M, e1, e2, e3⟩ := out_alts (frag_le n) ih x.parts a e h N i d k hp hd
      exact ⟨j, M, e1, .inr (.inl ⟨hk, e2⟩), e3⟩
    · obtain ⟨M, b, j, rfl, hs, hp2⟩ := one he
      obtain ⟨rfl, rfl, v, e1, e2⟩ := (St.op0 h1 h2).1 hs
      rw [tk_in h3 h4 h5] at e2
      subst he
      exact ⟨i + 1, M, by omega, .inr (.inr (.inl ⟨hk, rfl, v, e1, e2⟩)), hp2⟩
    · obtain ⟨M, b, j, rfl, hs, hp2⟩ := one he
      obtain ⟨rfl, rfl, v, e1, e2⟩ := (St.op0 h1 h2).1 hs
      subst he
      exact ⟨i + 1, M, by omega, .inr (.inr (.inr (.inl ⟨hk, rfl, (List.getElem?_eq_some_iff.1 e1).1⟩))), hp2⟩
    · obtain ⟨M, b, j, rfl, hs, hp2⟩ := one he
      obtain ⟨rfl, rfl, hi⟩ := (St.op2 h1 h2).1 hs
      subst he
      exact ⟨j, M, by omega, .inr (.inr (.inr (.inr (.inl ⟨hk, rfl, hi⟩)))), hp2⟩
    · obtain ⟨M, b, j, rfl, hs, hp2⟩ := one he
      obtain ⟨rfl, rfl, hi⟩ := (St.op3 h1 h2).1 hs
      subst he
      exact ⟨j, M, by omega, .inr (.inr (.inr (.inr (.inr (.inl ⟨hk, rfl, hi⟩))))), hp2⟩
    · obtain ⟨j0, j, M, e1, e2, e3, e4⟩ := out_plus (frag_le n) ih h1 s2 N i d k hp hd
      exact ⟨j, M, e1, .inr (.inr (.inr (.inr (.inr (.inr (.inl ⟨hk, q, j0, hq, e2, e3⟩)))))), e4⟩
    · obtain ⟨j, M, e1, e2, e3⟩ := out_star (frag_le n) ih s1 h1 s2 N i d k hp hd
      exact ⟨j, M, e1, .inr (.inr (.inr (.inr (.inr (.inr (.inr (.inl ⟨hk, q, hq, e2⟩))))))), e3⟩
    · have l1 := frag_le n _ _ _ h1
      obtain ⟨M, b, j, rfl, hs, hp2⟩ := hp.first (by omega)
      obtain ⟨rfl, hb⟩ := (St.split s1).1 hs
      rcases hb with rfl | rfl
      · obtain ⟨j2, M1, e1, e2, e3⟩ := ih q (a + 1) e h1 M i d k hp2 (by omega)
        exact ⟨j2, M1, by omega, .inr (.inr (.inr (.inr (.inr (.inr (.inr (.inr ⟨hk, q, hq, .inr e2⟩))))))), e3⟩
      · exact ⟨i, M, by omega, .inr (.inr (.inr (.inr (.inr (.inr (.inr (.inr ⟨hk, q, hq, .inl rfl⟩))))))), hp2⟩
def Inn (p : List T_regex_step) (l : List Int) (F : T_pc → Nat → Nat → Prop) (S : T_pc → Nat → Nat → Prop) : Prop :=
  ∀ x a e, F x a e → ∀ i j, S x i j → ∃ N, Pa p l N a i e j
theorem inn_chain {p : List T_regex_step} {l : List Int} {F S : T_pc → Nat → Nat → Prop} (h : Inn p l F S) : ∀ (xs : List T_pc) (a e : Nat), chain F xs a e → ∀ i j, schain S xs i j → ∃ N, Pa p l N a i e j
  | [], a, e, hc, i, j, hs => by
    obtain rfl : a = e := hc
    obtain rfl : i = j := hs
    exact ⟨0, .nil _ _⟩
  | x :: xs, a, e, ⟨m, h1, h2⟩, i, j, ⟨u, s1, s2⟩ => by
    obtain ⟨N, e1⟩ := h x a m h1 i u s1
    obtain ⟨M, e2⟩ := inn_chain h xs m e h2 u j s2
    exact ⟨_, e1.trans e2⟩
theorem inn_alts {p : List T_regex_step} {l : List Int} {F S : T_pc → Nat → Nat → Prop} (h : Inn p l F S) : ∀ (xs : List T_pc) (a e : Nat), alts p F xs a e → ∀ i j, (∃ y ∈ xs, S y i j) → ∃ N, Pa p l N a i e j
  | [], _, _, hc, _, _, _ => hc.elim
  | [x], a, e, hc, i, j, ⟨y, hy, hs⟩ => by
    rw [List.mem_singleton] at hy
    subst hy
    exact h _ _ _ hc i j hs
  | x :: y :: r, a, e, ⟨m, s1, h1, s2, h2⟩, i, j, ⟨z, hz, hs⟩ => by
    rcases List.mem_cons.1 hz with rfl | hz
    · obtain ⟨N, e1⟩ := h _ _ _ h1 i j hs
      exact ⟨_, (Pa.one ((St.split s1).2 ⟨rfl, .inl rfl⟩)).trans (e1.trans (Pa.one ((St.split s2).2 ⟨rfl, .inl rfl⟩)))⟩
    · obtain ⟨N, e1⟩ := inn_alts h (y :: r) (m + 1) e h2 i j ⟨z, hz, hs⟩
      exact ⟨_, (Pa.one ((St.split s1).2 ⟨rfl, .inr rfl⟩)).trans e1⟩
theorem frag_inn (p : List T_regex_step) (l : List Int) : ∀ n, Inn p l (Frag n p) (Sem n l)
  | 0 => fun _ _ _ h => h.elim
  | n + 1 => by
    intro x a e h i j hs
    have ih := frag_inn p l n
    have kd : ∀ {c d : Int}, x.kind = c → x.kind = d → c ≠ d → False := fun h1 h2 h3 => h3 (h1.symm.trans h2)
    rcases h with ⟨hk, h⟩ | ⟨hk, h⟩ | ⟨hk, he, s, h1, h2, h3, h4, h5⟩ | ⟨hk, he, s, h1, h2, h3⟩ | ⟨hk, he, s, h1, h2⟩ | ⟨hk, he, s, h1, h2⟩ | ⟨hk, q, m, hq, h1, s2, rfl⟩ | ⟨hk, q, m, hq, s1, h1, s2, rfl⟩ | ⟨hk, q, hq, s1, h1⟩ <;>
    rcases hs with ⟨gk, g⟩ | ⟨gk, g⟩ | ⟨gk, g⟩ | ⟨gk, g⟩ | ⟨gk, g⟩ | ⟨gk, g⟩ | ⟨gk, g⟩ | ⟨gk, g⟩ | ⟨gk, g⟩ <;>
    first
    | (exfalso; omega)
    | skip
    · exact inn_chain ih x.parts a e h i j g
    · exact inn_alts ih x.parts a e h i j g
    · obtain ⟨rfl, v, e1, e2⟩ := g
      subst he
      exact ⟨1, Pa.one ((St.op0 h1 h2).2 ⟨rfl, rfl, v, e1, by rw [tk_in h3 h4 h5]; exact e2⟩)⟩
    · obtain ⟨rfl, hi⟩ := g
      subst he
      refine ⟨1, Pa.one ((St.op0 h1 h2).2 ⟨rfl, rfl, l[i], List.getElem?_eq_getElem hi, ?_⟩)⟩
      unfold tk; rw [h3]; rfl
    · obtain ⟨rfl, hi⟩ := g
      subst he
      exact ⟨1, Pa.one ((St.op2 h1 h2).2 ⟨rfl, rfl, hi⟩)⟩
    · obtain ⟨rfl, hi⟩ := g
      subst he
      exact ⟨1, Pa.one ((St.op3 h1 h2).2 ⟨rfl, rfl, hi⟩)⟩
    · obtain ⟨q', u, hq', g1, g2⟩ := g
      obtain rfl : q = q' := by rw [hq] at hq'; exact (List.cons.inj hq').1
      have key : ∀ u, Star (Sem n l q) u j → ∀ i, Sem n l q i u → ∃ N, Pa p l N a i (m + 1) j := by
        intro u hst
        induction hst with
        | refl u =>
          intro i hi
          obtain ⟨N, e1⟩ := ih q a m h1 i u hi
          exact ⟨_, e1.trans (Pa.one ((St.split s2).2 ⟨rfl, .inr rfl⟩))⟩
        | step hr _ ih2 =>
          intro i hi
          obtain ⟨N, e1⟩ := ih q a m h1 i _ hi
          obtain ⟨M, e2⟩ := ih2 (by assumption) _ hr
          exact ⟨_, e1.trans ((Pa.one ((St.split s2).2 ⟨rfl, .inl rfl⟩)).trans e2)⟩
      exact key u g2 i g1
    · obtain ⟨q', hq', g1⟩ := g
      obtain rfl : q = q' := by rw [hq] at hq'; exact (List.cons.inj hq').1
      clear hq'
      induction g1 with
      | refl u => exact ⟨1, Pa.one ((St.split s1).2 ⟨rfl, .inr rfl⟩)⟩
      | step hr _ ih2 =>
        obtain ⟨N, e1⟩ := ih q (a + 1) m h1 _ _ hr
        obtain ⟨M, e2⟩ := ih2
        exact ⟨_, (Pa.one ((St.split s1).2 ⟨rfl, .inl rfl⟩)).trans (e1.trans ((Pa.one ((St.split s2).2 ⟨rfl, .inl rfl⟩)).trans e2))⟩
    · obtain ⟨q', hq', g1⟩ := g
      obtain rfl : q = q' := by rw [hq] at hq'; exact (List.cons.inj hq').1
      rcases g1 with rfl | g1
      · exact ⟨1, Pa.one ((St.split s1).2 ⟨rfl, .inr rfl⟩)⟩
      · obtain ⟨N, e1⟩ := ih q (a + 1) e h1 _ _ g1
        exact ⟨_, (Pa.one ((St.split s1).2 ⟨rfl, .inl rfl⟩)).trans e1⟩
theorem Cfg.path {p : List T_regex_step} {l : List Int} {i a : Nat} (h : Cfg p l i a) {N b j : Nat} (hp : Pa p l N a i b j) : Cfg p l j b := by
  induction hp with
  | nil => exact h
  | cons hs _ ih =>
    refine ih ?_
    rcases hs with ⟨rfl, he⟩ | ⟨rfl, rfl, s, x, h1, h2, h3, h4⟩
    · exact h.eps he
    · exact h.take h1 h2 h3 h4
theorem Cfg.from_ {p : List T_regex_step} {l : List Int} {j b : Nat} (h : Cfg p l j b) : ∃ i N, i ≤ l.length ∧ Pa p l N 0 i b j := by
  induction h with
  | start hi => exact ⟨_, 0, hi, .nil _ _⟩
  | eps _ he ih =>
    obtain ⟨i, N, h1, h2⟩ := ih
    exact ⟨i, _, h1, h2.trans (Pa.one (.inl ⟨rfl, he⟩))⟩
  | take _ h1 h2 h3 h4 ih =>
    obtain ⟨i, N, g1, g2⟩ := ih
    exact ⟨i, _, g1, g2.trans (Pa.one (.inr ⟨rfl, rfl, _, _, h1, h2, h3, h4⟩))⟩
theorem Pa.le {p : List T_regex_step} {l : List Int} {N a i b j : Nat} (h : Pa p l N a i b j) (hi : i ≤ l.length) : i ≤ j ∧ j ≤ l.length := by
  induction h with
  | nil => exact ⟨Nat.le_refl _, hi⟩
  | cons hs _ ih =>
    rcases hs with ⟨rfl, _⟩ | ⟨rfl, _, s, x, _, _, h3, _⟩
    · exact ih hi
    · have := (List.getElem?_eq_some_iff.1 h3).1
      have := ih (by omega)
      omega
theorem match_sem {k : Nat} (hk : 5000000 ≤ k) {e : T_regex_Expr} (h : Pat k e) (l : List Int) (hl : l.length ≤ 1000000) : ∃ b, regex_Expr_Match.f k (some e) l = some b ∧ (b = true ↔ ∃ i j, i ≤ l.length ∧ Sem (wt e.top) l e.top i j) := by
  obtain ⟨b, hb, hs⟩ := match_spec (k := k) e h.2.2.1 l hl hk
  refine ⟨b, hb, hs.trans ?_⟩
  obtain ⟨hw, hwt, hV, q, eq, hVq, hq, hprog⟩ := h
  obtain ⟨a1, a2⟩ := laid_all (wt e.top) e.top 2 hw (Nat.le_refl _) k e.top e.top [] q (fun _ h => by cases h) (by simp; omega) (by omega) eq
  have hf : Frag (wt e.top) e.prog e.top 0 q.length := by
    rw [hprog]
    exact frag_alike _ _ _ _ a2 (alike_app q _)
  have hd : e.prog.length - 1 = q.length := by rw [hprog]; simp
  have hlast : e.prog[q.length]? = some lastStep := by rw [hprog, List.getElem?_append_right (Nat.le_refl _), Nat.sub_self]; rfl
  rw [hd]
  constructor
  · rintro ⟨j, hj, hc⟩
    obtain ⟨i, N, hi, hp⟩ := hc.from_
    obtain ⟨j', M, _, e2, e3⟩ := frag_out e.prog l _ e.top 0 q.length hf N i q.length j hp (.inr (Nat.le_refl _))
    exact ⟨i, j', hi, e2⟩
  · rintro ⟨i, j, hi, hsem⟩
    obtain ⟨N, hp⟩ := frag_inn e.prog l _ e.top 0 q.length hf i j hsem
    exact ⟨j, (hp.le hi).2, (Cfg.start hi).path hp⟩
end Go.Proofs.YtafnenafbognkaaGreatDoor
namespace Go.Proofs.YtafnenafbognkaaGreatDoor
open Sp
set_option maxRecDepth 100000
set_option maxHeartbeats 4000000
abbrev Mx := List (List Bool)
def Dim (d : Nat) (M : Mx) : Prop := M.length = d ∧ ∀ (i : Nat) (row : List Bool), M[i]? = some row → row.length = d
def bit (M : Mx) (i j : Nat) : Prop := ∃ row, M[i]? = some row ∧ row[j]? = some true
theorem Dim.row {d : Nat} {M : Mx} (h : Dim d M) {i : Nat} (hi : i < d) : ∃ row, M[i]? = some row ∧ row.length = d ∧ ∀ j, j < d → ∃ b, row[j]? = some b ∧ (b = true ↔ bit M i j) := by
  obtain ⟨h1, h2⟩ := h
  have hr : M[i]? = some M[i] := List.getElem?_eq_getElem (by omega)
  have hl := h2 i _ hr
  refine ⟨M[i], hr, hl, fun j hj => ⟨M[i][j], List.getElem?_eq_getElem (by omega), ?_⟩⟩
  constructor
  · intro hb
    exact ⟨M[i], hr, by rw [List.getElem?_eq_getElem (by omega), hb]⟩
  · rintro ⟨row, e1, e2⟩
    rw [hr] at e1
    obtain rfl := Option.some.inj e1
    rw [List.getElem?_eq_getElem (by omega)] at e2
    exact Option.some.inj e2
theorem Dim.set {d : Nat} {M : Mx} (h : Dim d M) {i j : Nat} {row : List Bool} (hr : M[i]? = some row) (hj : j < d) (b : Bool) : Dim d (M.set i (row.set j b)) ∧ ∀ i' j', bit (M.set i (row.set j b)) i' j' ↔ (i' = i ∧ j' = j ∧ b = true) ∨ (¬ (i' = i ∧ j' = j) ∧ bit M i' j') := by
  obtain ⟨h1, h2⟩ := h
  have hi := (List.getElem?_eq_some_iff.1 hr).1
  have hl := h2 i row hr
  refine ⟨⟨by simp [h1], fun i' row' hh => ?_⟩, fun i' j' => ?_⟩
  · rw [List.getElem?_set] at hh
    by_cases hc : i = i'
    · subst hc
      rw [if_pos rfl, if_pos hi] at hh
      obtain rfl := Option.some.inj hh
      simp [hl]
    · rw [if_neg hc] at hh
      exact h2 i' row' hh
  · unfold bit
    rw [List.getElem?_set]
    by_cases hc : i = i'
    · subst hc
      rw [if_pos rfl, if_pos hi]
      constructor
      · rintro ⟨row', e1, e2⟩
        obtain rfl := Option.some.inj e1
        rw [List.getElem?_set] at e2
        by_cases hj' : j = j'
        · subst hj'
          rw [if_pos rfl, if_pos (by omega)] at e2
          exact .inl ⟨rfl, rfl, Option.some.inj e2⟩
        · rw [if_neg hj'] at e2
          exact .inr ⟨fun h => hj' h.2.symm, row, hr, e2⟩
      · rintro (⟨_, rfl, rfl⟩ | ⟨hn, row', e1, e2⟩)
        · exact ⟨_, rfl, by rw [List.getElem?_set, if_pos rfl, if_pos (by omega)]⟩
        · rw [hr] at e1
          obtain rfl := Option.some.inj e1
          exact ⟨_, rfl, by rw [List.getElem?_set, if_neg (fun h => hn ⟨rfl, h.symm⟩)]; exact e2⟩
    · rw [if_neg hc]
      constructor
      · intro h; exact .inr ⟨fun h => hc h.1.symm, h⟩
      · rintro (⟨h, _⟩ | ⟨_, h⟩)
        · exact absurd h.symm hc
        · exact h
theorem bit_lt {d : Nat} {M : Mx} (h : Dim d M) {i j : Nat} (hb : bit M i j) : i < d ∧ j < d := by
  obtain ⟨row, e1, e2⟩ := hb
  have h1 := (List.getElem?_eq_some_iff.1 e1).1
  have h2 := (List.getElem?_eq_some_iff.1 e2).1
  have := h.2 i row e1
  have := h.1
  omega
theorem i64_nat {n : Nat} (h : n < 1000000) : i64 ((n : Int) + 1) = ((n + 1 : Nat) : Int) := by rw [i64_id (by omega) (by omega)]; rfl
theorem still_l0 (last : Nat) (own : Bool) (hl : last ≤ 1000) : ∀ (k i : Nat) (M : Mx), i ≤ last + 1 → last + 2 ≤ k + i → M.length = i → (∀ (a : Nat) (row : List Bool), M[a]? = some row → row = (List.replicate (last + 1) false).set a own) →
    ∃ M', r11_still.l0 k (last : Int) own M (i : Int) = some M' ∧ M'.length = last + 1 ∧ (∀ (a : Nat) (row : List Bool), M'[a]? = some row → row = (List.replicate (last + 1) false).set a own)
  | 0, i, M, h1, h2, _, _ => by omega
  | k + 1, i, M, h1, h2, h3, h4 => by
    rw [r11_still.l0]
    by_cases hi : i ≤ last
    · rw [if_pos (by omega), i64_nat (by omega)]
      have e1 : made 1 false ((last + 1 : Nat) : Int) = some (List.replicate (last + 1) false) := by
        unfold made
        rw [if_pos]
        · rfl
        · have : (1000 : Int) < (Go.maxLen : Int) := by decide
          refine ⟨by omega, by omega, by omega⟩
      rw [e1, obs, lat_nat, List.getElem?_replicate, if_pos (by omega), obs]
      have ha : Sp.app 24 M [((List.replicate (last + 1) false).set (i : Int).toNat own)] = some (M ++ [((List.replicate (last + 1) false).set (i : Int).toNat own)]) := app_small (by simp; omega) (by decide)
      rw [ha, obs, i64_nat (by omega)]
      refine still_l0 last own hl k (i + 1) _ (by omega) (by omega) (by simp [h3]) fun a row hr => ?_
      by_cases hlt : a < M.length
      · rw [List.getElem?_append_left hlt] at hr
        exact h4 a row hr
      · rw [List.getElem?_append_right (by omega)] at hr
        by_cases h0 : a - M.length = 0
        · rw [h0] at hr
          simp only [List.getElem?_cons_zero, Option.some.injEq] at hr
          subst hr
          rw [Int.toNat_natCast, show a = i by omega]
        · rw [List.getElem?_eq_none (by simp; omega)] at hr
          cases hr
    · rw [if_neg (by omega)]
      exact ⟨M, rfl, by omega, h4⟩
theorem still_ok {k last : Nat} {own : Bool} (hl : last ≤ 1000) (hk : last + 2 ≤ k) : ∃ M, r11_still.f k (last : Int) own = some M ∧ Dim (last + 1) M ∧ ∀ i j, i ≤ last → (bit M i j ↔ j = i ∧ own = true) := by
  obtain ⟨M, e, h1, h2⟩ := still_l0 last own hl k 0 [] (Nat.zero_le _) (by omega) rfl (fun _ _ h => by simp at h)
  refine ⟨M, ?_, ⟨h1, fun i row hr => by rw [h2 i row hr]; simp⟩, fun i j hi => ?_⟩
  · rw [r11_still.f]
    rw [show ((0 : Nat) : Int) = 0 from rfl] at e
    rw [e]; rfl
  · have hr : M[i]? = some M[i] := List.getElem?_eq_getElem (by omega)
    have hm := h2 i _ hr
    constructor
    · rintro ⟨row, e1, e2⟩
      rw [h2 i row e1, List.getElem?_set] at e2
      by_cases hc : i = j
      · subst hc
        rw [if_pos rfl, if_pos (by simp; omega)] at e2
        exact ⟨rfl, Option.some.inj e2⟩
      · rw [if_neg hc, List.getElem?_replicate] at e2
        split at e2 <;> simp at e2
    · rintro ⟨rfl, rfl⟩
      refine ⟨M[j], hr, ?_⟩
      rw [hm, List.getElem?_set, if_pos rfl, if_pos (by simp; omega)]
section
variable {d : Nat} {a b : Mx} (hd : d ≤ 1000) (ha : Dim d a) (hb : Dim d b)
include hd ha hb
theorem either_l1 (i : Nat) (hi : i < d) : ∀ (k j : Nat) (M : Mx), Dim d M → j ≤ d → d + 1 ≤ k + j →
    ∃ M', r11_either.l1 k a b (i : Int) M (j : Int) = some M' ∧ Dim d M' ∧ ∀ i' j', j' < d → (bit M' i' j' ↔ if i' = i ∧ j ≤ j' then bit a i j' ∨ bit b i j' else bit M i' j')
  | 0, j, M, _, h1, h2 => by omega
  | k + 1, j, M, hM, h1, h2 => by
    rw [r11_either.l1, ha.1]
    by_cases hj : j < d
    · rw [if_pos (by omega)]
      obtain ⟨row, r1, r2, r3⟩ := hM.row hi
      obtain ⟨ra, a1, a2, a3⟩ := ha.row hi
      obtain ⟨rb, b1, b2, b3⟩ := hb.row hi
      obtain ⟨x, x1, _⟩ := r3 j hj
      obtain ⟨y, y1, y2⟩ := a3 j hj
      obtain ⟨z, z1, z2⟩ := b3 j hj
      simp only [lat_nat, r1, a1, b1, x1, y1, z1, obs, Int.toNat_natCast, i64_nat (show j < 1000000 by omega)]
      have fin : ∀ v : Bool, (v = true ↔ bit a i j ∨ bit b i j) → ∃ M', r11_either.l1 k a b (i : Int) (M.set i (row.set j v)) ((j + 1 : Nat) : Int) = some M' ∧ Dim d M' ∧ ∀ i' j', j' < d → (bit M' i' j' ↔ if i' = i ∧ j ≤ j' then bit a i j' ∨ bit b i j' else bit M i' j') := by
        intro v hv
        obtain ⟨d1, d2⟩ := hM.set r1 hj v
        obtain ⟨M', e, f1, f2⟩ := either_l1 i hi k (j + 1) _ d1 (by omega) (by omega)
        refine ⟨M', e, f1, fun i' j' hj' => ?_⟩
        rw [f2 i' j' hj', d2, hv]
        by_cases c1 : i' = i
        · subst c1
          by_cases c2 : j' = j
          · subst c2
            rw [if_neg (by omega), if_pos ⟨rfl, Nat.le_refl _⟩]
            simp
          · by_cases c3 : j ≤ j'
            · rw [if_pos ⟨rfl, by omega⟩, if_pos ⟨rfl, c3⟩]
            · rw [if_neg (by omega), if_neg (by omega)]
              simp [c2]
        · rw [if_neg (fun h => c1 h.1), if_neg (fun h => c1 h.1)]
          simp [c1]
      by_cases hy : y = true
      · rw [if_pos hy]
        exact fin true ⟨fun _ => .inl (y2.1 hy), fun _ => rfl⟩
      · rw [if_neg hy]
        exact fin z ⟨fun h => .inr (z2.1 h), fun h => z2.2 (h.resolve_left fun h => hy (y2.2 h))⟩
    · rw [if_neg (by omega)]
      refine ⟨M, rfl, hM, fun i' j' hj' => ?_⟩
      rw [if_neg (by omega)]
theorem either_l0 : ∀ (k i : Nat) (M : Mx), Dim d M → i ≤ d → 2 * d + 2 ≤ k + i →
    ∃ M', r11_either.l0 k a b M (i : Int) = some M' ∧ Dim d M' ∧ ∀ i' j', i' < d → j' < d → (bit M' i' j' ↔ if i ≤ i' then bit a i' j' ∨ bit b i' j' else bit M i' j')
  | 0, i, M, _, h1, h2 => by omega
  | k + 1, i, M, hM, h1, h2 => by
    rw [r11_either.l0, ha.1]
    by_cases hi : i < d
    · rw [if_pos (by omega)]
      obtain ⟨M1, e1, d1, f1⟩ := either_l1 hd ha hb i hi k 0 M hM (Nat.zero_le _) (by omega)
      rw [show ((0 : Nat) : Int) = 0 from rfl] at e1
      rw [e1, obs, i64_nat (by omega)]
      obtain ⟨M2, e2, d2, f2⟩ := either_l0 k (i + 1) M1 d1 (by omega) (by omega)
      refine ⟨M2, e2, d2, fun i' j' hi' hj' => ?_⟩
      rw [f2 i' j' hi' hj', f1 i' j' hj']
      by_cases c : i' = i
      · subst c
        rw [if_neg (by omega), if_pos ⟨rfl, Nat.zero_le _⟩, if_pos (Nat.le_refl _)]
      · by_cases c2 : i ≤ i'
        · rw [if_pos (by omega), if_pos c2]
        · rw [if_neg (by omega), if_neg c2, if_neg (fun h => c h.1)]
    · rw [if_neg (by omega)]
      refine ⟨M, rfl, hM, fun i' j' hi' hj' => ?_⟩
      rw [if_neg (by omega)]
theorem either_ok {k : Nat} (hk : 2 * d + 2 ≤ k) (h0 : 0 < d) : ∃ M, r11_either.f k a b = some M ∧ Dim d M ∧ ∀ i j, i < d → j < d → (bit M i j ↔ bit a i j ∨ bit b i j) := by
  rw [r11_either.f, ha.1]
  have e0 : i64 ((d : Int) - 1) = ((d - 1 : Nat) : Int) := by rw [i64_id (by omega) (by omega)]; omega
  obtain ⟨M0, e, d0, _⟩ := still_ok (k := k) (last := d - 1) (own := false) (by omega) (by omega)
  rw [show d - 1 + 1 = d by omega] at d0
  rw [e0, e, obs]
  obtain ⟨M1, e1, d1, f1⟩ := either_l0 hd ha hb k 0 M0 d0 (Nat.zero_le _) (by omega)
  rw [show ((0 : Nat) : Int) = 0 from rfl] at e1
  rw [e1]
  refine ⟨M1, rfl, d1, fun i j hi hj => ?_⟩
  rw [f1 i j hi hj, if_pos (Nat.zero_le _)]
theorem then_l2 (i c : Nat) (hi : i < d) (hc : c < d) : ∀ (k j : Nat) (M : Mx), Dim d M → j ≤ d → d + 1 ≤ k + j →
    ∃ M', r11_then.l2 k a b (i : Int) (c : Int) M (j : Int) = some M' ∧ Dim d M' ∧ ∀ i' j', j' < d → (bit M' i' j' ↔ bit M i' j' ∨ (i' = i ∧ j ≤ j' ∧ bit a i c ∧ bit b c j'))
  | 0, j, M, _, h1, h2 => by omega
  | k + 1, j, M, hM, h1, h2 => by
    rw [r11_then.l2, ha.1]
    by_cases hj : j < d
    · rw [if_pos (by omega)]
      obtain ⟨row, r1, r2, r3⟩ := hM.row hi
      obtain ⟨ra, a1, a2, a3⟩ := ha.row hi
      obtain ⟨rb, b1, b2, b3⟩ := hb.row hc
      obtain ⟨x, x1, x2⟩ := r3 j hj
      obtain ⟨y, y1, y2⟩ := a3 c hc
      obtain ⟨z, z1, z2⟩ := b3 j hj
      simp only [lat_nat, r1, a1, b1, x1, y1, z1, obs, Int.toNat_natCast, i64_nat (show j < 1000000 by omega)]
      by_cases hy : y = true
      · rw [if_pos hy]
        have hac := y2.1 hy
        have fin : ∀ v : Bool, (v = true ↔ bit M i j ∨ bit b c j) → ∃ M', r11_then.l2 k a b (i : Int) (c : Int) (M.set i (row.set j v)) ((j + 1 : Nat) : Int) = some M' ∧ Dim d M' ∧ ∀ i' j', j' < d → (bit M' i' j' ↔ bit M i' j' ∨ (i' = i ∧ j ≤ j' ∧ bit a i c ∧ bit b c j')) := by
          intro v hv
          obtain ⟨d1, d2⟩ := hM.set r1 hj v
          obtain ⟨M', e, f1, f2⟩ := then_l2 i c hi hc k (j + 1) _ d1 (by omega) (by omega)
          refine ⟨M', e, f1, fun i' j' hj' => ?_⟩
          rw [f2 i' j' hj', d2, hv]
          by_cases c1 : i' = i
          · subst c1
            by_cases c2 : j' = j
            · subst c2
              simp [hac]
              exact fun _ h => .inr h
            · have : j + 1 ≤ j' ↔ j ≤ j' := by omega
              simp [c2, this]
          · simp [c1]
        by_cases hx : x = true
        · rw [if_pos hx]
          exact fin true ⟨fun _ => .inl (x2.1 hx), fun _ => rfl⟩
        · rw [if_neg hx]
          exact fin z ⟨fun h => .inr (z2.1 h), fun h => z2.2 (h.resolve_left fun h => hx (x2.2 h))⟩
      · rw [if_neg hy]
        have hac : ¬ bit a i c := fun h => hy (y2.2 h)
        exact ⟨M, rfl, hM, fun i' j' hj' => by simp [hac]⟩
    · rw [if_neg (by omega)]
      refine ⟨M, rfl, hM, fun i' j' hj' => ?_⟩
      have : ¬ j ≤ j' := by omega
      simp [this]
theorem then_l1 (i : Nat) (hi : i < d) : ∀ (k c : Nat) (M : Mx), Dim d M → c ≤ d → 2 * d + 2 ≤ k + c →
    ∃ M', r11_then.l1 k a b (i : Int) M (c : Int) = some M' ∧ Dim d M' ∧ ∀ i' j', j' < d → (bit M' i' j' ↔ bit M i' j' ∨ (i' = i ∧ ∃ e, c ≤ e ∧ e ≤ j' ∧ bit a i e ∧ bit b e j'))
  | 0, c, M, _, h1, h2 => by omega
  | k + 1, c, M, hM, h1, h2 => by
    rw [r11_then.l1, ha.1]
    by_cases hc : c < d
    · rw [if_pos (by omega)]
      obtain ⟨M1, e1, d1, f1⟩ := then_l2 hd ha hb i c hi hc k c M hM (by omega) (by omega)
      rw [e1, obs, i64_nat (by omega)]
      obtain ⟨M2, e2, d2, f2⟩ := then_l1 i hi k (c + 1) M1 d1 (by omega) (by omega)
      refine ⟨M2, e2, d2, fun i' j' hj' => ?_⟩
      rw [f2 i' j' hj', f1 i' j' hj', or_assoc]
      refine or_congr Iff.rfl ?_
      constructor
      · rintro (⟨h1, h2, h3, h4⟩ | ⟨h1, e, h2, h3, h4, h5⟩)
        · exact ⟨h1, c, Nat.le_refl _, h2, h3, h4⟩
        · exact ⟨h1, e, by omega, h3, h4, h5⟩
      · rintro ⟨h1, e, h2, h3, h4, h5⟩
        rcases Nat.lt_or_eq_of_le h2 with h2 | rfl
        · exact .inr ⟨h1, e, h2, h3, h4, h5⟩
        · exact .inl ⟨h1, h3, h4, h5⟩
    · rw [if_neg (by omega)]
      refine ⟨M, rfl, hM, fun i' j' hj' => ⟨.inl, ?_⟩⟩
      rintro (h | ⟨_, e, h2, h3, _⟩)
      · exact h
      · omega
theorem then_l0 : ∀ (k i : Nat) (M : Mx), Dim d M → i ≤ d → 3 * d + 3 ≤ k + i →
    ∃ M', r11_then.l0 k a b M (i : Int) = some M' ∧ Dim d M' ∧ ∀ i' j', i' < d → j' < d → (bit M' i' j' ↔ bit M i' j' ∨ (i ≤ i' ∧ ∃ e, i' ≤ e ∧ e ≤ j' ∧ bit a i' e ∧ bit b e j'))
  | 0, i, M, _, h1, h2 => by omega
  | k + 1, i, M, hM, h1, h2 => by
    rw [r11_then.l0, ha.1]
    by_cases hi : i < d
    · rw [if_pos (by omega)]
      obtain ⟨M1, e1, d1, f1⟩ := then_l1 hd ha hb i hi k i M hM (by omega) (by omega)
      rw [e1, obs, i64_nat (by omega)]
      obtain ⟨M2, e2, d2, f2⟩ := then_l0 k (i + 1) M1 d1 (by omega) (by omega)
      refine ⟨M2, e2, d2, fun i' j' hi' hj' => ?_⟩
      rw [f2 i' j' hi' hj', f1 i' j' hj', or_assoc]
      refine or_congr Iff.rfl ?_
      constructor
      · rintro (⟨rfl, e, h2⟩ | ⟨h1, h2⟩)
        · exact ⟨Nat.le_refl _, e, h2⟩
        · exact ⟨by omega, h2⟩
      · rintro ⟨h1, e, h2⟩
        rcases Nat.lt_or_eq_of_le h1 with h1 | rfl
        · exact .inr ⟨h1, e, h2⟩
        · exact .inl ⟨rfl, e, h2⟩
    · rw [if_neg (by omega)]
      refine ⟨M, rfl, hM, fun i' j' hi' hj' => ⟨.inl, ?_⟩⟩
      rintro (h | ⟨_, e, h2⟩)
      · exact h
      · omega
theorem then_ok {k : Nat} (hk : 3 * d + 3 ≤ k) (h0 : 0 < d) : ∃ M, r11_then.f k a b = some M ∧ Dim d M ∧ ∀ i j, i < d → j < d → (bit M i j ↔ ∃ e, i ≤ e ∧ e ≤ j ∧ bit a i e ∧ bit b e j) := by
  rw [r11_then.f, ha.1]
  have e0 : i64 ((d : Int) - 1) = ((d - 1 : Nat) : Int) := by rw [i64_id (by omega) (by omega)]; omega
  obtain ⟨M0, e, d0, f0⟩ := still_ok (k := k) (last := d - 1) (own := false) (by omega) (by omega)
  rw [show d - 1 + 1 = d by omega] at d0
  rw [e0, e, obs]
  obtain ⟨M1, e1, d1, f1⟩ := then_l0 hd ha hb k 0 M0 d0 (Nat.zero_le _) (by omega)
  rw [show ((0 : Nat) : Int) = 0 from rfl] at e1
  rw [e1]
  refine ⟨M1, rfl, d1, fun i j hi hj => ?_⟩
  rw [f1 i j hi hj, f0 i j (by omega)]
  simp
end
theorem Star.snoc {R : Nat → Nat → Prop} {i j k : Nat} (h : Star R i j) (h2 : R j k) : Star R i k := by
  induction h with
  | refl i => exact .step h2 (.refl _)
  | step a _ ih => exact .step a (ih h2)
theorem Star.trans {R : Nat → Nat → Prop} {i j k : Nat} (h : Star R i j) (h2 : Star R j k) : Star R i k := by
  induction h with
  | refl i => exact h2
  | step a _ ih => exact .step a (ih h2)
theorem star_le' {R : Nat → Nat → Prop} (h : ∀ i j, R i j → i ≤ j) {i j : Nat} (hs : Star R i j) : i ≤ j := by
  induction hs with
  | refl i => exact Nat.le_refl _
  | step a _ ih => exact Nat.le_trans (h _ _ a) ih
theorem Star.last {R : Nat → Nat → Prop} (hR : ∀ i j, R i j → i ≤ j) {i j : Nat} (h : Star R i j) : j = i ∨ ∃ c, c < j ∧ Star R i c ∧ R c j := by
  induction h with
  | refl i => exact .inl rfl
  | @step i c j a b ih =>
    rcases ih with rfl | ⟨e, h1, h2, h3⟩
    · rcases Nat.lt_or_eq_of_le (hR _ _ a) with h | h
      · exact .inr ⟨i, h, .refl _, a⟩
      · exact .inl h.symm
    · exact .inr ⟨e, h1, .step a h2, h3⟩
section
variable {d : Nat} {a : Mx} (hd : d ≤ 1000) (ha : Dim d a)
include hd ha
theorem often_l2 (i c : Nat) (hi : i < d) (hc : c < d) : ∀ (k j : Nat) (M : Mx), Dim d M → j ≤ d → d + 1 ≤ k + j →
    ∃ M', r11_often.l2 k a (i : Int) (c : Int) M (j : Int) = some M' ∧ Dim d M' ∧ ∀ i' j', j' < d → (bit M' i' j' ↔ bit M i' j' ∨ (i' = i ∧ j ≤ j' ∧ bit M i c ∧ bit a c j'))
  | 0, j, M, _, h1, h2 => by omega
  | k + 1, j, M, hM, h1, h2 => by
    rw [r11_often.l2, ha.1]
    by_cases hj : j < d
    · rw [if_pos (by omega)]
      obtain ⟨row, r1, r2, r3⟩ := hM.row hi
      obtain ⟨rb, b1, b2, b3⟩ := ha.row hc
      obtain ⟨x, x1, x2⟩ := r3 j hj
      obtain ⟨y, y1, y2⟩ := r3 c hc
      obtain ⟨z, z1, z2⟩ := b3 j hj
      simp only [lat_nat, r1, b1, x1, y1, z1, obs, Int.toNat_natCast, i64_nat (show j < 1000000 by omega)]
      by_cases hy : y = true
      · rw [if_pos hy]
        have hac := y2.1 hy
        have fin : ∀ v : Bool, (v = true ↔ bit M i j ∨ bit a c j) → ∃ M', r11_often.l2 k a (i : Int) (c : Int) (M.set i (row.set j v)) ((j + 1 : Nat) : Int) = some M' ∧ Dim d M' ∧ ∀ i' j', j' < d → (bit M' i' j' ↔ bit M i' j' ∨ (i' = i ∧ j ≤ j' ∧ bit M i c ∧ bit a c j')) := by
          intro v hv
          obtain ⟨d1, d2⟩ := hM.set r1 hj v
          obtain ⟨M', e, f1, f2⟩ := often_l2 i c hi hc k (j + 1) _ d1 (by omega) (by omega)
          refine ⟨M', e, f1, fun i' j' hj' => ?_⟩
          have hic : bit (M.set i (row.set j v)) i c := by
            rw [d2, hv]
            by_cases h : c = j
            · subst h; exact .inl ⟨rfl, rfl, .inl hac⟩
            · exact .inr ⟨fun h' => h h'.2, hac⟩
          rw [f2 i' j' hj']
          simp only [hic, d2, hv, hac, true_and]
          by_cases c1 : i' = i
          · subst c1
            by_cases c2 : j' = j
            · subst c2
              simp
              exact fun _ h => .inr h
            · have : j + 1 ≤ j' ↔ j ≤ j' := by omega
              simp [c2, this]
          · simp [c1]
        by_cases hx : x = true
        · rw [if_pos hx]
          exact fin true ⟨fun _ => .inl (x2.1 hx), fun _ => rfl⟩
        · rw [if_neg hx]
          exact fin z ⟨fun h => .inr (z2.1 h), fun h => z2.2 (h.resolve_left fun h => hx (x2.2 h))⟩
      · rw [if_neg hy]
        have hac : ¬ bit M i c := fun h => hy (y2.2 h)
        exact ⟨M, rfl, hM, fun i' j' hj' => by simp [hac]⟩
    · rw [if_neg (by omega)]
      refine ⟨M, rfl, hM, fun i' j' hj' => ?_⟩
      have : ¬ j ≤ j' := by omega
      simp [this]
variable (hR : ∀ i j, bit a i j → i ≤ j)
include hR
theorem often_l1 (i : Nat) (hi : i < d) : ∀ (k c : Nat) (M : Mx), Dim d M → i ≤ c → c ≤ d → 2 * d + 2 ≤ k + c → (∀ j, j < d → (bit M i j ↔ j = i ∨ ∃ e, e < c ∧ Star (bit a) i e ∧ bit a e j)) →
    ∃ M', r11_often.l1 k a (i : Int) M (c : Int) = some M' ∧ Dim d M' ∧ (∀ j, j < d → (bit M' i j ↔ Star (bit a) i j)) ∧ ∀ i' j', i' ≠ i → j' < d → (bit M' i' j' ↔ bit M i' j')
  | 0, c, M, _, _, h1, h2, _ => by omega
  | k + 1, c, M, hM, hic, h1, h2, inv => by
    rw [r11_often.l1, ha.1]
    by_cases hc : c < d
    · rw [if_pos (by omega)]
      obtain ⟨M1, e1, d1, f1⟩ := often_l2 hd ha i c hi hc k c M hM (by omega) (by omega)
      rw [e1, obs, i64_nat (by omega)]
      have hcc : bit M i c ↔ Star (bit a) i c := by
        rw [inv c hc]
        constructor
        · rintro (rfl | ⟨e, _, h2, h3⟩)
          · exact .refl _
          · exact h2.snoc h3
        · intro h
          rcases h.last hR with h | ⟨e, h1, h2, h3⟩
          · exact .inl h
          · exact .inr ⟨e, h1, h2, h3⟩
      obtain ⟨M2, e2, d2, f2, g2⟩ := often_l1 i hi k (c + 1) M1 d1 (by omega) (by omega) (by omega) (fun j hj => by
        rw [f1 i j hj, inv j hj, hcc]
        constructor
        · rintro ((h | ⟨e, h1, h2, h3⟩) | ⟨_, _, h2, h3⟩)
          · exact .inl h
          · exact .inr ⟨e, by omega, h2, h3⟩
          · exact .inr ⟨c, by omega, h2, h3⟩
        · rintro (h | ⟨e, g1, g2, g3⟩)
          · exact .inl (.inl h)
          · rcases Nat.lt_or_eq_of_le (Nat.le_of_lt_succ g1) with g1 | g1
            · exact .inl (.inr ⟨e, g1, g2, g3⟩)
            · subst g1
              exact .inr ⟨rfl, hR _ _ g3, g2, g3⟩)
      refine ⟨M2, e2, d2, f2, fun i' j' hn hj' => ?_⟩
      rw [g2 i' j' hn hj', f1 i' j' hj']
      simp [hn]
    · rw [if_neg (by omega)]
      refine ⟨M, rfl, hM, fun j hj => ?_, fun i' j' _ _ => Iff.rfl⟩
      rw [inv j hj]
      constructor
      · rintro (rfl | ⟨e, _, h2, h3⟩)
        · exact .refl _
        · exact h2.snoc h3
      · intro h
        rcases h.last hR with h | ⟨e, h1, h2, h3⟩
        · exact .inl h
        · exact .inr ⟨e, by omega, h2, h3⟩
theorem often_l0 : ∀ (k i : Nat) (M : Mx), Dim d M → i ≤ d → 3 * d + 3 ≤ k + i → (∀ i' j, i ≤ i' → i' < d → j < d → (bit M i' j ↔ j = i')) →
    ∃ M', r11_often.l0 k a M (i : Int) = some M' ∧ Dim d M' ∧ ∀ i' j', i' < d → j' < d → (bit M' i' j' ↔ if i ≤ i' then Star (bit a) i' j' else bit M i' j')
  | 0, i, M, _, h1, h2, _ => by omega
  | k + 1, i, M, hM, h1, h2, inv => by
    rw [r11_often.l0, ha.1]
    by_cases hi : i < d
    · rw [if_pos (by omega)]
      obtain ⟨M1, e1, d1, f1, g1⟩ := often_l1 hd ha hR i hi k i M hM (Nat.le_refl _) (by omega) (by omega) (fun j hj => by
        rw [inv i j (Nat.le_refl _) hi hj]
        constructor
        · exact .inl
        · rintro (h | ⟨e, h1, h2, _⟩)
          · exact h
          · have := star_le' hR h2
            omega)
      rw [e1, obs, i64_nat (by omega)]
      obtain ⟨M2, e2, d2, f2⟩ := often_l0 k (i + 1) M1 d1 (by omega) (by omega) (fun i' j h1 h2 h3 => by
        rw [g1 i' j (by omega) h3, inv i' j (by omega) h2 h3])
      refine ⟨M2, e2, d2, fun i' j' hi' hj' => ?_⟩
      rw [f2 i' j' hi' hj']
      by_cases c : i' = i
      · subst c
        rw [if_neg (by omega), if_pos (Nat.le_refl _), f1 j' hj']
      · by_cases c2 : i ≤ i'
        · rw [if_pos (by omega), if_pos c2]
        · rw [if_neg (by omega), if_neg c2, g1 i' j' c hj']
    · rw [if_neg (by omega)]
      refine ⟨M, rfl, hM, fun i' j' hi' hj' => ?_⟩
      rw [if_neg (by omega)]
theorem often_ok {k : Nat} (hk : 3 * d + 3 ≤ k) (h0 : 0 < d) : ∃ M, r11_often.f k a = some M ∧ Dim d M ∧ ∀ i j, i < d → j < d → (bit M i j ↔ Star (bit a) i j) := by
  rw [r11_often.f, ha.1]
  have e0 : i64 ((d : Int) - 1) = ((d - 1 : Nat) : Int) := by rw [i64_id (by omega) (by omega)]; omega
  obtain ⟨M0, e, d0, f0⟩ := still_ok (k := k) (last := d - 1) (own := true) (by omega) (by omega)
  rw [show d - 1 + 1 = d by omega] at d0
  rw [e0, e, obs]
  obtain ⟨M1, e1, d1, f1⟩ := often_l0 hd ha hR k 0 M0 d0 (Nat.zero_le _) (by omega) (fun i' j _ h2 h3 => by
    rw [f0 i' j (by omega)]
    simp)
  rw [show ((0 : Nat) : Int) = 0 from rfl] at e1
  rw [e1]
  refine ⟨M1, rfl, d1, fun i j hi hj => ?_⟩
  rw [f1 i j hi hj, if_pos (Nat.zero_le _)]
end
end Go.Proofs.YtafnenafbognkaaGreatDoor
namespace Go.Proofs.YtafnenafbognkaaGreatDoor
open Sp
set_option maxRecDepth 100000
set_option maxHeartbeats 4000000
abbrev sgn (c : Int) : T_sg := ⟨c, 0, false⟩
def NDH (r : List UInt8) : Prop := ∀ c t, r = c :: t → ¬ dig c
def LexEq (t : List UInt8) (tk : List T_sg) : Prop := ∀ rest acc, NDH rest → lexS (t ++ rest) [] acc = lexS rest [] (acc ++ tk)
def LexC (c : UInt8) (x : T_sg) : Prop := ¬ dig c ∧ ∀ rest acc, lexS (c :: rest) [] acc = lexS rest [] (acc ++ [x])
theorem NDH.nil : NDH [] := fun _ _ h => by cases h
theorem NDH.cons {c : UInt8} {r : List UInt8} (h : ¬ dig c) : NDH (c :: r) := fun _ _ e => by obtain ⟨rfl, _⟩ := List.cons.inj e; exact h
theorem lexS_dig {c : UInt8} {r pend : List UInt8} {acc : List T_sg} (h : dig c) : lexS (c :: r) pend acc = lexS r (pend ++ [c]) acc := by
  rw [lexS]; exact if_pos h
theorem lexS_non {c : UInt8} {r pend : List UInt8} {acc : List T_sg} (h : ¬ dig c) : lexS (c :: r) pend acc = (flushS pend acc).bind fun acc' =>
      if c.toNat = 32 ∨ c.toNat = 95 then lexS r [] (acc' ++ [⟨32, 0, false⟩])
      else if punctI c.toNat then lexS r [] (acc' ++ [⟨(c.toNat : Int), 0, false⟩])
      else none := by
  rw [lexS]; exact if_neg h
theorem flush_nil (acc : List T_sg) : flushS [] acc = some acc := by simp [flushS]
theorem LexC.one {c : UInt8} {x : T_sg} (h : LexC c x) : LexEq [c] [x] := fun rest acc _ => h.2 rest acc
theorem LexEq.then {c : UInt8} {x : T_sg} {t t2 : List UInt8} {tk tk2 : List T_sg} (h1 : LexEq t tk) (h : LexC c x) (h2 : LexEq t2 tk2) : LexEq (t ++ c :: t2) (tk ++ x :: tk2) := fun rest acc hr => by
  rw [List.append_assoc, List.cons_append, h1 _ _ (NDH.cons h.1), h.2, h2 _ _ hr, List.append_assoc, List.append_assoc]; rfl
theorem LexEq.nil : LexEq [] [] := fun rest acc _ => by simp
theorem lex_digs : ∀ (d : List UInt8) (pend rest : List UInt8) (acc : List T_sg), (∀ c ∈ d, dig c) → lexS (d ++ rest) pend acc = lexS rest (pend ++ d) acc
  | [], pend, rest, acc, _ => by simp
  | c :: d, pend, rest, acc, h => by
    rw [List.cons_append, lexS_dig (h c (List.mem_cons_self ..)), lex_digs d _ _ _ (fun x hx => h x (List.mem_cons_of_mem _ hx)), List.append_assoc]; rfl
theorem nd (c : UInt8) (h : ¬ (48 ≤ c.toNat ∧ c.toNat ≤ 57)) : ¬ dig c := h
end Go.Proofs.YtafnenafbognkaaGreatDoor
namespace Go.Proofs.YtafnenafbognkaaGreatDoor
open Sp
set_option maxRecDepth 100000
set_option maxHeartbeats 4000000
theorem next_cons {k : Nat} {L r : List T_sg} {x : T_sg} {b : Bool} (h : dsp L = x :: r) (hk : L.length < k) : rr_next.f k ⟨L, b⟩ = some (x, ⟨r, b⟩) := by
  rw [next_eq hk, h]; rfl
def firstOk (x : T_sg) : Prop := (¬ x.c = 32 ∧ ¬ x.c = 42 ∧ ¬ x.c = 43 ∧ ¬ x.c = 63) ∧ (x.digits = true ∨ (¬ x.c = 0 ∧ ¬ x.c = 124 ∧ ¬ x.c = 41))
def ItemP (p : T_pc) (tk : List T_sg) : Prop := ∃ x tk', tk = x :: tk' ∧ firstOk x ∧ ∀ rest k, 4 * (tk' ++ rest).length + 5 ≤ k → (tk ++ rest).length ≤ 100000 →
  ∃ q l2 m, rr_atom.f k ⟨tk' ++ rest, false⟩ x = some (q, ⟨l2, false⟩) ∧ m ≤ tk'.length ∧
    ∀ K, (tk ++ rest).length + 3 ≤ K → rr_repeats.l0 (K + m) q.kind q.parts q.spans q.not l2 false = rr_repeats.l0 K p.kind p.parts p.spans p.not rest false
def stopR (rest : List T_sg) : Prop := (hd (dsp rest)).digits = false ∧ ((hd (dsp rest)).c = 0 ∨ (hd (dsp rest)).c = 124 ∨ (hd (dsp rest)).c = 41)
def stopC (rest : List T_sg) : Prop := (hd (dsp rest)).digits = false ∧ ((hd (dsp rest)).c = 0 ∨ (hd (dsp rest)).c = 41)
theorem stopC.r {rest : List T_sg} (h : stopC rest) : stopR rest := ⟨h.1, h.2.imp id .inr⟩
end Go.Proofs.YtafnenafbognkaaGreatDoor
namespace Go.Proofs.YtafnenafbognkaaGreatDoor
open Sp
set_option maxRecDepth 100000
set_option maxHeartbeats 4000000
theorem scat_B {a b : List UInt8} (h : a.length + b.length ≤ 1000000000) : scat (B a) (B b) = some (B (a ++ b)) := by
  unfold scat
  rw [if_pos (by rw [B_size, B_size]; omega)]
  congr 1
end Go.Proofs.YtafnenafbognkaaGreatDoor
namespace Go.Proofs.YtafnenafbognkaaGreatDoor
open Sp
set_option maxRecDepth 100000
set_option maxHeartbeats 4000000
section
variable {X rest0 : List T_sg}
theorem dsp_app (hX : X = sgn 41 :: rest0) : ∀ l, dsp (l ++ X) = dsp l ++ X
  | [] => by subst hX; simp [dsp]
  | x :: l => by
    by_cases h : x.c = 32
    · simp [dsp, h, dsp_app hX l]
    · simp [dsp, h]
theorem hd_app (hX : X = sgn 41 :: rest0) (l : List T_sg) : (dsp l = [] ∧ hd (dsp (l ++ X)) = sgn 41 ∧ hd (dsp l) = ⟨0, 0, false⟩) ∨ (dsp l ≠ [] ∧ hd (dsp (l ++ X)) = hd (dsp l)) := by
  rw [dsp_app hX]
  cases h : dsp l with
  | nil => subst hX; exact .inl ⟨rfl, rfl, rfl⟩
  | cons x t => exact .inr ⟨by simp, rfl⟩
theorem tail_app (hX : X = sgn 41 :: rest0) {l : List T_sg} (h : dsp l ≠ []) : (dsp (l ++ X)).tail = (dsp l).tail ++ X := by
  rw [dsp_app hX]
  cases h' : dsp l with
  | nil => exact absurd h' h
  | cons x t => rfl
theorem repx (hX : X = sgn 41 :: rest0) : ∀ (k1 k2 : Nat) (q p : T_pc) (l : List T_sg) (r : T_regex_reader), l.length + 1 < k1 → (l ++ X).length + 1 < k2 → rr_repeats.l0 k1 q.kind q.parts q.spans q.not l false = some (.inl (p, r)) → rr_repeats.l0 k2 q.kind q.parts q.spans q.not (l ++ X) false = some (.inl (p, ⟨r.rest ++ X, false⟩))
  | 0, _, _, _, _, _, h, _, _ => by omega
  | k1 + 1, 0, _, _, _, _, _, h, _ => by omega
  | k1 + 1, k2 + 1, q, p, l, r, h1, h2, h => by
    rw [rr_repeats.l0, peek_eq (by omega)] at h
    rw [rr_repeats.l0, peek_eq (by omega)]
    simp only [obs] at h ⊢
    have dl := dsp_len l
    have dlx := dsp_len (l ++ X)
    rcases hd_app hX l with ⟨e1, e2, e3⟩ | ⟨e1, e2⟩
    · rw [e3] at h
      rw [if_neg (by decide), if_neg (by decide), if_neg (by decide)] at h
      rw [e2, if_neg (by decide), if_neg (by decide), if_neg (by decide)]
      simp only [Option.some.injEq, Sum.inl.injEq, Prod.mk.injEq] at h
      obtain ⟨rfl, rfl⟩ := h
      rw [dsp_app hX]
    · rw [e2]
      have ht := tail_lt e1
      have htx : (dsp (l ++ X)).tail = (dsp l).tail ++ X := tail_app hX e1
      rw [next_eq (by omega), dsp_dsp] at h
      rw [next_eq (by omega), dsp_dsp, htx]
      simp only [obs] at h ⊢
      have hlx : ((dsp l).tail ++ X).length + 1 ≤ (l ++ X).length := by rw [List.length_append, List.length_append]; omega
      split at h
      · rename_i hc
        rw [if_pos hc]
        exact repx hX k1 k2 ⟨7, [⟨q.kind, q.parts, q.spans, q.not⟩], [], false⟩ p _ r (by omega) (by omega) h
      · rename_i hc
        rw [if_neg hc]
        split at h
        · rename_i hc
          rw [if_pos hc]
          exact repx hX k1 k2 ⟨8, [⟨q.kind, q.parts, q.spans, q.not⟩], [], false⟩ p _ r (by omega) (by omega) h
        · rename_i hc
          rw [if_neg hc]
          split at h
          · rename_i hc
            rw [if_pos hc]
            exact repx hX k1 k2 ⟨9, [⟨q.kind, q.parts, q.spans, q.not⟩], [], false⟩ p _ r (by omega) (by omega) h
          · rename_i hc
            rw [if_neg hc]
            simp only [Option.some.injEq, Sum.inl.injEq, Prod.mk.injEq] at h
            obtain ⟨rfl, rfl⟩ := h
            rw [dsp_app hX]
theorem setx_l1 (hX : X = sgn 41 :: rest0) : ∀ (k1 k2 : Nat) (l l1 : List T_sg) (b : Bool), l.length + 1 < k1 → (l ++ X).length + 1 < k2 → rr_set.l1 k1 l false = some (l1, b) → b = false ∧ rr_set.l1 k2 (l ++ X) false = some (l1 ++ X, false)
  | 0, _, _, _, _, h, _, _ => by omega
  | k1 + 1, 0, _, _, _, _, h, _ => by omega
  | k1 + 1, k2 + 1, l, l1, b, h1, h2, h => by
    rw [rr_set.l1, peek_eq (by omega)] at h
    rw [rr_set.l1, peek_eq (by omega)]
    simp only [obs] at h ⊢
    have dl := dsp_len l
    have dlx := dsp_len (l ++ X)
    rcases hd_app hX l with ⟨e1, e2, e3⟩ | ⟨e1, e2⟩
    · rw [e3, if_neg (by decide)] at h
      rw [e2, if_neg (by decide)]
      simp only [Option.some.injEq, Prod.mk.injEq] at h
      obtain ⟨rfl, rfl⟩ := h
      exact ⟨rfl, by rw [dsp_app hX]⟩
    · rw [e2]
      split at h
      · rename_i hc
        rw [if_pos hc]
        have ht := tail_lt e1
        rw [next_eq (by omega), dsp_dsp, obs] at h
        rw [next_eq (by omega), dsp_dsp, tail_app hX e1, obs]
        have hlx : ((dsp l).tail ++ X).length + 1 ≤ (l ++ X).length := by rw [List.length_append, List.length_append]; omega
        exact setx_l1 hX k1 k2 _ l1 b (by omega) (by omega) h
      · rename_i hc
        rw [if_neg hc]
        simp only [Option.some.injEq, Prod.mk.injEq] at h
        obtain ⟨rfl, rfl⟩ := h
        exact ⟨rfl, by rw [dsp_app hX]⟩
theorem set_nil {k : Nat} {nt b : Bool} {ss : List T_regex_span} {p : T_pc} {r : T_regex_reader} (hk : 3 ≤ k) (h : rr_set.l0 k nt [] b ss = some (.inl (p, r))) : r.bad = true := by
  cases k with
  | zero => omega
  | succ k =>
    have h1 : rr_set.l1 k [] b = some ([], b) := by
      cases k with
      | zero => omega
      | succ k =>
        rw [rr_set.l1, peek_eq (by simp; omega), obs]
        simp [dsp, hd]
    rw [rr_set.l0, h1, obs] at h
    simp only at h
    rw [show rr_next.f k ⟨[], b⟩ = some (⟨0, 0, false⟩, ⟨[], b⟩) by rw [next_eq (by simp; omega)]; rfl, obs] at h
    rw [if_neg (show ¬ false = true by decide)] at h
    by_cases hbb : b = true
    · rw [if_pos hbb] at h
      simp only [Option.some.injEq, Sum.inl.injEq, Prod.mk.injEq] at h
      rw [← h.2]
    · rw [if_neg hbb, if_neg (show ¬ (0 : Int) = 93 by decide)] at h
      simp only [Option.some.injEq, Sum.inl.injEq, Prod.mk.injEq] at h
      rw [← h.2]
theorem setx_l0 (hX : X = sgn 41 :: rest0) : ∀ (k1 k2 : Nat) (nt : Bool) (l : List T_sg) (ss : List T_regex_span) (p : T_pc) (r : T_regex_reader), sgs l → l.length + 3 < k1 → (l ++ X).length + 3 < k2 → ss.length + l.length ≤ 1000000 →
    rr_set.l0 k1 nt l false ss = some (.inl (p, r)) → r.bad = false → rr_set.l0 k2 nt (l ++ X) false ss = some (.inl (p, ⟨r.rest ++ X, false⟩))
  | 0, _, _, _, _, _, _, _, h, _, _, _, _ => by omega
  | k1 + 1, 0, _, _, _, _, _, _, _, h, _, _, _ => by omega
  | k1 + 1, k2 + 1, nt, l, ss, p, r, hs, h1, h2, hb, h, hr => by
    rw [rr_set.l0] at h
    rw [rr_set.l0]
    obtain ⟨l1, e1, g1, gs⟩ := set_l1 k1 l false (by omega) hs
    obtain ⟨_, e2⟩ := setx_l1 hX k1 k2 l l1 false (by omega) (by omega) e1
    rw [e1, obs] at h
    rw [e2, obs]
    simp only at h ⊢
    have hlx : (l1 ++ X).length ≤ (l ++ X).length := by rw [List.length_append, List.length_append]; omega
    rw [next_eq (by omega), obs] at h
    rw [next_eq (by omega), obs]
    have bad : ∀ {q : T_pc} {u : List T_sg}, (some (.inl (q, ⟨u, true⟩)) : Option (Sum (T_pc × T_regex_reader) Unit)) = some (.inl (p, r)) → False := fun hh => by
      simp only [Option.some.injEq, Sum.inl.injEq, Prod.mk.injEq] at hh
      rw [← hh.2] at hr
      cases hr
    rcases hd_app hX l1 with ⟨d1, d2, d3⟩ | ⟨d1, d2⟩
    · exfalso
      rw [d3] at h
      rw [if_neg (show ¬ false = true by decide), if_neg (show ¬ false = true by decide), if_neg (show ¬ (0 : Int) = 93 by decide)] at h
      exact bad h
    · rw [tail_app hX d1]
      simp only [d2]
      have hlt := tail_lt d1
      have hst := sgs_tail gs
      simp only at h
      -- the loop goes on
      have go : ∀ (t : List T_sg) (s : T_regex_span) (b' : Bool), t.length + 1 ≤ l1.length → sgs t → ((Sp.app 8 ss [s]).bind fun l110 => rr_set.l0 k1 nt t b' l110) = some (.inl (p, r)) → ((Sp.app 8 ss [s]).bind fun l110 => rr_set.l0 k2 nt (t ++ X) b' l110) = some (.inl (p, ⟨r.rest ++ X, false⟩)) := by
        intro t s b' ht hst' hh
        have ha : Sp.app 8 ss [s] = some (ss ++ [s]) := app_small (by simp; omega) (by decide)
        rw [ha, obs] at hh ⊢
        have hb' : b' = false := by
          obtain ⟨p', r', e', _, _, _, h5⟩ := set_l0 k1 nt t b' (ss ++ [s]) (by omega) hst' (by simp; omega)
          rw [e'] at hh
          simp only [Option.some.injEq, Sum.inl.injEq, Prod.mk.injEq] at hh
          obtain ⟨rfl, rfl⟩ := hh
          exact (h5 hr).1
        subst hb'
        exact setx_l0 hX k1 k2 nt t (ss ++ [s]) p r hst' (by omega) (by rw [List.length_append] at h2 ⊢; omega) (by simp; omega) hh hr
      by_cases hdg : (hd (dsp l1)).digits = true
      · rw [if_pos hdg] at h ⊢
        cases ht : (dsp l1).tail with
        | nil =>
          exfalso
          rw [ht] at h
          rw [if_neg (by decide)] at h
          have ha : ∀ s, Sp.app 8 ss [s] = some (ss ++ [s]) := fun s => app_small (by simp; omega) (by decide)
          simp only [ha, obs, Bool.false_eq_true, if_false] at h
          have := set_nil (by omega) h
          rw [hr] at this
          cases this
        | cons y t =>
          rw [ht] at h hlt hst
          have hy : signOk y := hst y (List.mem_cons_self ..)
          have pos1 : ((((y :: t).length : Nat) : Int) > 0) := by simp only [List.length_cons]; omega
          have pos2 : ((((y :: t ++ X).length : Nat) : Int) > 0) := by rw [List.length_append]; simp only [List.length_cons]; omega
          rw [if_pos pos1, show lat (y :: t) 0 = some y from rfl, obs] at h
          rw [if_pos pos2, show lat (y :: t ++ X) 0 = some y from rfl, obs]
          by_cases hc : y.c = 45
          · rw [if_pos hc] at h ⊢
            have hdy : ∀ u, dsp (y :: u) = y :: u := fun u => by simp [dsp, hc]
            rw [next_cons (hdy t) (by simp only [List.length_cons] at hlt ⊢; omega), obs] at h
            rw [show y :: t ++ X = y :: (t ++ X) from rfl, next_cons (hdy _) (by simp only [List.length_cons, List.length_append] at hlt hlx h2 ⊢; omega), obs]
            simp only at h ⊢
            cases t with
            | nil =>
              exfalso
              rw [if_pos (by rfl), obs] at h
              exact bad h
            | cons z t2 =>
              have hz : signOk z := hst z (by simp)
              have n1 : ¬ ((((z :: t2).length : Nat) : Int) = 0) := by simp only [List.length_cons]; omega
              have n2 : ¬ ((((z :: t2 ++ X).length : Nat) : Int) = 0) := by rw [List.length_append]; simp only [List.length_cons]; omega
              rw [if_neg n1, show lat (z :: t2) 0 = some z from rfl, obs] at h
              rw [if_neg n2, show lat (z :: t2 ++ X) 0 = some z from rfl, obs]
              by_cases hzd : z.digits = true
              · rw [if_pos hzd] at h ⊢
                have hdz : ∀ u, dsp (z :: u) = z :: u := fun u => by simp [dsp, (hz.1 hzd).2]
                rw [next_cons (hdz t2) (by simp only [List.length_cons] at hlt ⊢; omega), obs] at h
                rw [show z :: t2 ++ X = z :: (t2 ++ X) from rfl, next_cons (hdz _) (by simp only [List.length_cons, List.length_append] at hlt hlx h2 ⊢; omega), obs]
                simp only [obs, Bool.false_eq_true, if_false] at h ⊢
                exact go t2 _ _ (by simp only [List.length_cons] at hlt; omega) (fun w hw => hst w (by simp [hw])) h
              · exfalso
                rw [if_neg hzd, obs] at h
                exact bad h
          · rw [if_neg hc] at h ⊢
            simp only [obs, Bool.false_eq_true, if_false] at h ⊢
            exact go (y :: t) _ _ (by omega) hst h
      · rw [if_neg hdg] at h ⊢
        rw [if_neg (by decide)] at h ⊢
        split at h
        · rename_i hc
          rw [if_pos hc]
          simp only [Option.some.injEq, Sum.inl.injEq, Prod.mk.injEq] at h ⊢
          obtain ⟨rfl, rfl⟩ := h
          simp only at hr
          refine ⟨rfl, ?_⟩
          rw [hr]
        · exfalso
          exact bad h
theorem setx (hX : X = sgn 41 :: rest0) {k1 k2 : Nat} {l : List T_sg} {p : T_pc} {r : T_regex_reader} (hs : sgs l) (h1 : l.length + 3 < k1) (h2 : (l ++ X).length + 3 < k2) (hb : l.length ≤ 100000)
    (h : rr_set.f k1 ⟨l, false⟩ = some (p, r)) (hr : r.bad = false) : rr_set.f k2 ⟨l ++ X, false⟩ = some (p, ⟨r.rest ++ X, false⟩) := by
  rw [rr_set.f, peek_eq (by omega), obs] at h
  rw [rr_set.f, peek_eq (by omega), obs]
  have dl := dsp_len l
  have dlx := dsp_len (l ++ X)
  have key : ∀ (t : List T_sg) (nt : Bool), t.length ≤ l.length → sgs t → ((rr_set.l0 k1 nt t false []).bind fun o => match o with | .inl r => some r | .inr _ => none) = some (p, r) → ((rr_set.l0 k2 nt (t ++ X) false []).bind fun o => match o with | .inl r => some r | .inr _ => none) = some (p, ⟨r.rest ++ X, false⟩) := by
    intro t nt ht hst hh
    obtain ⟨o, ho, hh⟩ := obx hh
    cases o with
    | inr _ => cases hh
    | inl o =>
      obtain rfl := Option.some.inj hh
      rw [setx_l0 hX k1 k2 nt t [] p r hst (by omega) (by rw [List.length_append] at h2 ⊢; omega) (by simp; omega) ho hr]
      rfl
  rcases hd_app hX l with ⟨e1, e2, e3⟩ | ⟨e1, e2⟩
  · rw [e3, if_neg (show ¬ (0 : Int) = 94 by decide), obs] at h
    rw [e2, if_neg (show ¬ (41 : Int) = 94 by decide), obs, dsp_app hX]
    exact key _ _ dl (sgs_dsp hs) h
  · rw [e2]
    split at h
    · rename_i hc
      rw [if_pos hc]
      rw [next_eq (by omega), dsp_dsp, obs, obs] at h
      rw [next_eq (by omega), dsp_dsp, tail_app hX e1, obs, obs]
      exact key _ _ (tail_len l) (sgs_tail hs) h
    · rename_i hc
      rw [if_neg hc, obs, dsp_app hX]
      rw [obs] at h
      exact key _ _ dl (sgs_dsp hs) h
end
end Go.Proofs.YtafnenafbognkaaGreatDoor
namespace Go.Proofs.YtafnenafbognkaaGreatDoor
open Sp
set_option maxRecDepth 100000
set_option maxHeartbeats 4000000
theorem row0_bad {k : Nat} {l l' : List T_sg} {b : Bool} {ps ps' : List T_pc} (hs : sgs l) (hb : l.length ≤ 100000) (hk : 4 * l.length + 2 ≤ k) (hw : wts ps + 4 * l.length ≤ 1000000) (h : rr_row.l0 k ps l b = some (ps', l', false)) : b = false ∧ wts ps' + 4 * l'.length ≤ wts ps + 4 * l.length ∧ sgs l' ∧ l'.length ≤ l.length := by
  obtain ⟨h1, _⟩ := all_ok l.length l b rfl hs hb
  obtain ⟨a, c, d, e, e1, e2, e3, _, e4⟩ := h1 k ps hk hw
  rw [e] at h
  simp only [Option.some.injEq, Prod.mk.injEq] at h
  obtain ⟨rfl, rfl, rfl⟩ := h
  exact ⟨(e4 rfl).1, e3, e2, e1⟩
theorem ch0_bad {k : Nat} {l l' : List T_sg} {b : Bool} {ps ps' : List T_pc} (hs : sgs l) (hb : l.length ≤ 100000) (hk : 4 * l.length + 2 ≤ k) (hw : wts ps + 4 * l.length ≤ 1000000) (h : rr_choices.l0 k ps l b = some (ps', l', false)) : b = false := by
  obtain ⟨_, _, h1, _⟩ := all_ok l.length l b rfl hs hb
  obtain ⟨a, c, d, e, _, _, _, _, e4⟩ := h1 k ps hk hw
  rw [e] at h
  simp only [Option.some.injEq, Prod.mk.injEq] at h
  obtain ⟨rfl, rfl, rfl⟩ := h
  exact (e4 rfl).1
theorem res_inv {l : List T_sg} {b : Bool} {kd c : Nat} {o : Option (T_pc × T_regex_reader)} (h : Res l b kd c o) {p : T_pc} {r : T_regex_reader} (he : o = some (p, r)) : r.rest.length ≤ l.length ∧ sgs r.rest ∧ wt p + 4 * r.rest.length ≤ 4 * l.length + c := by
  obtain ⟨p', r', e, h1, h2, h3, _⟩ := h
  rw [he] at e
  simp only [Option.some.injEq, Prod.mk.injEq] at e
  obtain ⟨rfl, rfl⟩ := e
  exact ⟨h1, h2, h3⟩
section
variable {X rest0 : List T_sg}
def E1 (X : List T_sg) (n : Nat) : Prop := ∀ (l : List T_sg), l.length = n → sgs l → (l ++ X).length ≤ 100000 → ∀ (k1 k2 : Nat) (ps ps' : List T_pc) (l' : List T_sg), 4 * n + 2 ≤ k1 → 4 * (l ++ X).length + 2 ≤ k2 → wts ps + 4 * n ≤ 600000 →
  rr_row.l0 k1 ps l false = some (ps', l', false) → rr_row.l0 k2 ps (l ++ X) false = some (ps', l' ++ X, false)
def E2 (X : List T_sg) (n : Nat) : Prop := ∀ (l : List T_sg), l.length = n → sgs l → (l ++ X).length ≤ 100000 → ∀ (k1 k2 : Nat) (p : T_pc) (r : T_regex_reader), 4 * n + 3 ≤ k1 → 4 * (l ++ X).length + 3 ≤ k2 →
  rr_row.f k1 ⟨l, false⟩ = some (p, r) → r.bad = false → rr_row.f k2 ⟨l ++ X, false⟩ = some (p, ⟨r.rest ++ X, false⟩)
def E3 (X : List T_sg) (n : Nat) : Prop := ∀ (l : List T_sg), l.length = n → sgs l → (l ++ X).length ≤ 100000 → ∀ (k1 k2 : Nat) (ps ps' : List T_pc) (l' : List T_sg), 4 * n + 2 ≤ k1 → 4 * (l ++ X).length + 2 ≤ k2 → wts ps + 4 * n ≤ 600000 →
  rr_choices.l0 k1 ps l false = some (ps', l', false) → rr_choices.l0 k2 ps (l ++ X) false = some (ps', l' ++ X, false)
def E4 (X : List T_sg) (n : Nat) : Prop := ∀ (l : List T_sg), l.length = n → sgs l → (l ++ X).length ≤ 100000 → ∀ (k1 k2 : Nat) (p : T_pc) (r : T_regex_reader), 4 * n + 4 ≤ k1 → 4 * (l ++ X).length + 4 ≤ k2 →
  rr_choices.f k1 ⟨l, false⟩ = some (p, r) → r.bad = false → rr_choices.f k2 ⟨l ++ X, false⟩ = some (p, ⟨r.rest ++ X, false⟩)
def E5 (X : List T_sg) (n : Nat) : Prop := ∀ (l : List T_sg), l.length = n → sgs l → (l ++ X).length ≤ 100000 → ∀ (k1 k2 : Nat) (x : T_sg) (p : T_pc) (r : T_regex_reader), 4 * n + 5 ≤ k1 → 4 * (l ++ X).length + 5 ≤ k2 → signOk x →
  rr_atom.f k1 ⟨l, false⟩ x = some (p, r) → r.bad = false → rr_atom.f k2 ⟨l ++ X, false⟩ x = some (p, ⟨r.rest ++ X, false⟩)
theorem e1 (hX : X = sgn 41 :: rest0) (n : Nat) (i1 : ∀ m, m < n → E1 X m) (i5 : ∀ m, m < n → E5 X m) : E1 X n := by
  intro l hn hs hl k1 k2 ps ps' l' h1 h2 hw h
  have hlX : (l ++ X).length = l.length + X.length := List.length_append
  cases k1 with
  | zero => omega
  | succ k1 =>
    cases k2 with
    | zero => omega
    | succ k2 =>
      rw [rr_row.l0, if_neg (by decide), peek_eq (by omega), obs] at h
      rw [rr_row.l0, if_neg (by decide), peek_eq (by omega), obs]
      have dl := dsp_len l
      have dlx := dsp_len (l ++ X)
      rcases hd_app hX l with ⟨d1, d2, d3⟩ | ⟨d1, d2⟩
      · rw [d3, if_neg (show ¬ false = true by decide), if_pos (show (0 : Int) = 0 from rfl)] at h
        rw [d2, if_neg (show ¬ false = true by decide), if_neg (show ¬ (41 : Int) = 0 by decide), if_neg (show ¬ (41 : Int) = 124 by decide), if_pos (show (41 : Int) = 41 from rfl)]
        simp only [Option.some.injEq, Prod.mk.injEq] at h
        obtain ⟨rfl, rfl, _⟩ := h
        rw [dsp_app hX]
      · rw [next_eq (by omega), dsp_dsp, obs] at h
        rw [next_eq (by omega), dsp_dsp, tail_app hX d1, obs, d2]
        simp only at h ⊢
        have hlt := tail_lt d1
        have hst := sgs_tail hs
        have hok := hd_ok (sgs_dsp hs) d1
        have stay : some (ps, dsp l, false) = some (ps', l', false) → some (ps, dsp (l ++ X), false) = some (ps', l' ++ X, false) := fun h => by
          simp only [Option.some.injEq, Prod.mk.injEq] at h
          obtain ⟨rfl, rfl, _⟩ := h
          rw [dsp_app hX]
        have htX : ((dsp l).tail ++ X).length = (dsp l).tail.length + X.length := List.length_append
        have go : ((rr_atom.f k1 ⟨(dsp l).tail, false⟩ (hd (dsp l))).bind fun y38 => ((rr_repeats.f k1 y38.2 y38.1).bind fun y42 => ((Sp.app 64 ps [y42.1]).bind fun l50 => (rr_row.l0 k1 l50 y42.2.rest y42.2.bad)))) = some (ps', l', false) →
            ((rr_atom.f k2 ⟨(dsp l).tail ++ X, false⟩ (hd (dsp l))).bind fun y38 => ((rr_repeats.f k2 y38.2 y38.1).bind fun y42 => ((Sp.app 64 ps [y42.1]).bind fun l50 => (rr_row.l0 k2 l50 y42.2.rest y42.2.bad)))) = some (ps', l' ++ X, false) := by
          intro h
          obtain ⟨⟨p, r⟩, a1, h⟩ := obx h
          simp only at h
          obtain ⟨⟨q, r2⟩, a2, h⟩ := obx h
          obtain ⟨l50, a3, h⟩ := obx h
          simp only at h a3
          obtain ⟨_, _, _, _, hat⟩ := all_ok (dsp l).tail.length (dsp l).tail false rfl hst (by omega)
          obtain ⟨g1, g2, g3⟩ := res_inv (hat k1 (hd (dsp l)) (by omega) hok) a1
          obtain ⟨q', r', b1, b2, b3, b4, b5, _⟩ := repeats_ok (k := k1) (p := p) (l := r.rest) (b := r.bad) (by omega) g2
          rw [show (⟨r.rest, r.bad⟩ : T_regex_reader) = r from rfl, a2] at b1
          simp only [Option.some.injEq, Prod.mk.injEq] at b1
          obtain ⟨rfl, rfl⟩ := b1
          obtain ⟨_, _, rfl⟩ := app_ok a3
          have hwq : wts (ps ++ [q]) = wts ps + wt q := by rw [wts_app]; simp [wts]
          obtain ⟨c1', _, _, _⟩ := row0_bad b4 (by omega) (by omega) (by omega) h
          have hrb : r.bad = false := by rw [← b3, c1']
          have x1 := i5 _ (show (dsp l).tail.length < n by omega) (dsp l).tail rfl hst (by omega) k1 k2 _ p r (by omega) (by omega) hok a1 hrb
          rw [x1, obs]
          simp only
          have hrX : (r.rest ++ X).length = r.rest.length + X.length := List.length_append
          have hr2X : (r2.rest ++ X).length = r2.rest.length + X.length := List.length_append
          have x2 : rr_repeats.f k2 ⟨r.rest ++ X, false⟩ p = some (q, ⟨r2.rest ++ X, false⟩) := by
            rw [rr_repeats.f] at a2 ⊢
            obtain ⟨o, ho, a2⟩ := obx a2
            cases o with
            | inr _ => cases a2
            | inl o =>
              obtain rfl := Option.some.inj a2
              rw [hrb] at ho
              simp only
              rw [repx hX k1 k2 p q r.rest r2 (by omega) (by omega) ho]
              rfl
          rw [x2, obs, a3, obs]
          rw [c1'] at h
          exact i1 _ (show r2.rest.length < n by omega) r2.rest rfl b4 (by omega) k1 k2 _ ps' l' (by omega) (by omega) (by omega) h
        split at h
        · rename_i hdg
          rw [if_pos hdg]
          exact go h
        · rename_i hdg
          rw [if_neg hdg]
          split at h
          · rename_i hc; rw [if_pos hc]; exact stay h
          · rename_i hc
            rw [if_neg hc]
            split at h
            · rename_i hc; rw [if_pos hc]; exact stay h
            · rename_i hc
              rw [if_neg hc]
              split at h
              · rename_i hc; rw [if_pos hc]; exact stay h
              · rename_i hc; rw [if_neg hc]; exact go h
theorem e2 (n : Nat) (i1 : E1 X n) : E2 X n := by
  intro l hn hs hl k1 k2 p r h1 h2 h hr
  cases k1 with
  | zero => omega
  | succ k1 =>
    cases k2 with
    | zero => omega
    | succ k2 =>
      rw [rr_row.f] at h ⊢
      obtain ⟨⟨ps', l', b'⟩, a1, h⟩ := obx h
      simp only [Option.some.injEq, Prod.mk.injEq] at h
      obtain ⟨rfl, rfl⟩ := h
      obtain rfl : b' = false := hr
      have hn1 : n ≤ 100000 := by rw [List.length_append] at hl; omega
      simp only at a1 ⊢
      rw [i1 l hn hs hl k1 k2 [] ps' l' (by omega) (by omega) (by simp [wts]; omega) a1]
      rfl
theorem e3 (hX : X = sgn 41 :: rest0) (n : Nat) (i2 : ∀ m, m < n → E2 X m) (i3 : ∀ m, m < n → E3 X m) : E3 X n := by
  intro l hn hs hl k1 k2 ps ps' l' h1 h2 hw h
  have hlX : (l ++ X).length = l.length + X.length := List.length_append
  cases k1 with
  | zero => omega
  | succ k1 =>
    cases k2 with
    | zero => omega
    | succ k2 =>
      rw [rr_choices.l0, if_neg (by decide), peek_eq (by omega), obs] at h
      rw [rr_choices.l0, if_neg (by decide), peek_eq (by omega), obs]
      have dl := dsp_len l
      have dlx := dsp_len (l ++ X)
      have stay : some (ps, dsp l, false) = some (ps', l', false) → some (ps, dsp (l ++ X), false) = some (ps', l' ++ X, false) := fun h => by
        simp only [Option.some.injEq, Prod.mk.injEq] at h
        obtain ⟨rfl, rfl, _⟩ := h
        rw [dsp_app hX]
      rcases hd_app hX l with ⟨d1, d2, d3⟩ | ⟨d1, d2⟩
      · rw [d3, if_neg (show ¬ (0 : Int) = 124 by decide)] at h
        rw [d2, if_neg (show ¬ (41 : Int) = 124 by decide)]
        exact stay h
      · rw [d2]
        split at h
        · rename_i hc
          rw [if_pos hc]
          rw [next_eq (by omega), dsp_dsp, obs] at h
          rw [next_eq (by omega), dsp_dsp, tail_app hX d1, obs]
          simp only at h ⊢
          have hlt := tail_lt d1
          have hst := sgs_tail hs
          have htX : ((dsp l).tail ++ X).length = (dsp l).tail.length + X.length := List.length_append
          obtain ⟨⟨p, r⟩, a1, h⟩ := obx h
          obtain ⟨l52, a3, h⟩ := obx h
          simp only at h a3
          obtain ⟨_, hrw, _⟩ := all_ok (dsp l).tail.length (dsp l).tail false rfl hst (by omega)
          obtain ⟨g1, g2, g3⟩ := res_inv (hrw k1 (by omega)) a1
          obtain ⟨_, _, rfl⟩ := app_ok a3
          have hwq : wts (ps ++ [p]) = wts ps + wt p := by rw [wts_app]; simp [wts]
          have hrb := ch0_bad g2 (by omega) (by omega) (by omega) h
          have x1 := i2 _ (show (dsp l).tail.length < n by omega) (dsp l).tail rfl hst (by omega) k1 k2 p r (by omega) (by omega) a1 hrb
          rw [x1, obs]
          simp only
          rw [a3, obs]
          rw [hrb] at h
          have hrX : (r.rest ++ X).length = r.rest.length + X.length := List.length_append
          exact i3 _ (show r.rest.length < n by omega) r.rest rfl g2 (by omega) k1 k2 _ ps' l' (by omega) (by omega) (by omega) h
        · rename_i hc
          rw [if_neg hc]
          exact stay h
theorem e4 (n : Nat) (i2 : E2 X n) (i3 : ∀ m, m ≤ n → E3 X m) : E4 X n := by
  intro l hn hs hl k1 k2 p r h1 h2 h hr
  have hlX : (l ++ X).length = l.length + X.length := List.length_append
  cases k1 with
  | zero => omega
  | succ k1 =>
    cases k2 with
    | zero => omega
    | succ k2 =>
      rw [rr_choices.f] at h ⊢
      obtain ⟨⟨p1, r1⟩, a1, h⟩ := obx h
      obtain ⟨⟨ps', l', b'⟩, a2, h⟩ := obx h
      simp only [Option.some.injEq, Prod.mk.injEq] at h a2
      obtain ⟨rfl, rfl⟩ := h
      obtain rfl : b' = false := hr
      obtain ⟨_, hrw, _⟩ := all_ok l.length l false rfl hs (by omega)
      obtain ⟨g1, g2, g3⟩ := res_inv (hrw k1 (by omega)) a1
      have hw1 : wts [p1] = wt p1 := by simp [wts]
      have hrb := ch0_bad g2 (by omega) (by omega) (by omega) a2
      rw [i2 l hn hs hl k1 k2 p1 r1 (by omega) (by omega) a1 hrb, obs]
      simp only
      rw [hrb] at a2
      have hrX : (r1.rest ++ X).length = r1.rest.length + X.length := List.length_append
      rw [i3 _ (show r1.rest.length ≤ n by omega) r1.rest rfl g2 (by omega) k1 k2 _ ps' l' (by omega) (by omega) (by omega) a2]
      rfl
theorem e5 (hX : X = sgn 41 :: rest0) (n : Nat) (i4 : E4 X n) : E5 X n := by
  intro l hn hs hl k1 k2 x p r h1 h2 hx h hr
  have hlX : (l ++ X).length = l.length + X.length := List.length_append
  have hXl : 1 ≤ X.length := by subst hX; simp
  cases k1 with
  | zero => omega
  | succ k1 =>
    cases k2 with
    | zero => omega
    | succ k2 =>
      rw [rr_atom.f] at h ⊢
      have one : ∀ {q : T_pc}, some (q, (⟨l, false⟩ : T_regex_reader)) = some (p, r) → some (q, (⟨l ++ X, false⟩ : T_regex_reader)) = some (p, ⟨r.rest ++ X, false⟩) := fun h => by
        simp only [Option.some.injEq, Prod.mk.injEq] at h
        obtain ⟨rfl, rfl⟩ := h
        rfl
      split at h
      · rename_i hc; rw [if_pos hc]; exact one h
      · rename_i hc
        rw [if_neg hc]
        split at h
        · rename_i hc; rw [if_pos hc]; exact one h
        · rename_i hc
          rw [if_neg hc]
          split at h
          · rename_i hc; rw [if_pos hc]; exact one h
          · rename_i hc
            rw [if_neg hc]
            split at h
            · rename_i hc; rw [if_pos hc]; exact one h
            · rename_i hc
              rw [if_neg hc]
              split at h
              · rename_i hc
                rw [if_pos hc]
                obtain ⟨⟨q, u⟩, a1, h⟩ := obx h
                simp only [Option.some.injEq, Prod.mk.injEq] at h
                obtain ⟨rfl, rfl⟩ := h
                rw [setx hX hs (by omega) (by omega) (by omega) a1 hr]
                rfl
              · rename_i hc
                rw [if_neg hc]
                split at h
                · rename_i hc
                  rw [if_pos hc]
                  obtain ⟨⟨q, u⟩, a1, h⟩ := obx h
                  simp only at h
                  split at h
                  · simp only [Option.some.injEq, Prod.mk.injEq] at h
                    rw [← h.2] at hr
                    cases hr
                  · rename_i hub
                    have hub' : u.bad = false := by simpa using hub
                    obtain ⟨_, _, _, hch, _⟩ := all_ok l.length l false rfl hs (by omega)
                    obtain ⟨g1, g2, g3⟩ := res_inv (hch k1 (by omega)) a1
                    rw [i4 l hn hs hl k1 k2 q u (by omega) (by omega) a1 hub', obs]
                    simp only
                    rw [if_neg (show ¬ false = true by decide)]
                    have hn1 := next_eq (k := k1) (l := u.rest) (b := u.bad) (by omega)
                    rw [show (⟨u.rest, u.bad⟩ : T_regex_reader) = u from rfl] at hn1
                    rw [hn1, obs] at h
                    have huX : (u.rest ++ X).length = u.rest.length + X.length := List.length_append
                    rw [next_eq (by omega), obs]
                    simp only [Option.some.injEq, Prod.mk.injEq] at h
                    obtain ⟨rfl, rfl⟩ := h
                    simp only at hr
                    rcases hd_app hX u.rest with ⟨d1, d2, d3⟩ | ⟨d1, d2⟩
                    · rw [d3] at hr
                      exact absurd hr (by decide)
                    · rw [tail_app hX d1, d2]
                      simp only [hr]
                · rename_i hc
                  simp only [Option.some.injEq, Prod.mk.injEq] at h
                  rw [← h.2] at hr
                  cases hr
end
end Go.Proofs.YtafnenafbognkaaGreatDoor
namespace Go.Proofs.YtafnenafbognkaaGreatDoor
open Sp
set_option maxRecDepth 100000
set_option maxHeartbeats 4000000
theorem wt_parts {x q : T_pc} (h : q ∈ x.parts) : wt q < wt x := by
  obtain ⟨_, ps, ss, _⟩ := x
  simp only at h
  have : ∀ (l : List T_pc), q ∈ l → wt q ≤ wts l := by
    intro l
    induction l with
    | nil => intro h; cases h
    | cons y l ih =>
      intro h
      simp only [wts]
      rcases List.mem_cons.1 h with rfl | h
      · omega
      · have := ih h; omega
  have := this ps h
  simp only [wt]
  omega
theorem schain_congr {R S : T_pc → Nat → Nat → Prop} : ∀ (l : List T_pc), (∀ x ∈ l, ∀ i j, R x i j ↔ S x i j) → ∀ i j, schain R l i j ↔ schain S l i j
  | [], _, _, _ => Iff.rfl
  | x :: l, h, i, j => by
    simp only [schain]
    have h1 := h x (List.mem_cons_self ..)
    have h2 := schain_congr l fun y hy => h y (List.mem_cons_of_mem _ hy)
    constructor
    · rintro ⟨m, a, b⟩; exact ⟨m, (h1 _ _).1 a, (h2 _ _).1 b⟩
    · rintro ⟨m, a, b⟩; exact ⟨m, (h1 _ _).2 a, (h2 _ _).2 b⟩
theorem star_congr {R S : Nat → Nat → Prop} (h : ∀ i j, R i j → S i j) {i j : Nat} (hs : Star R i j) : Star S i j := by
  induction hs with
  | refl i => exact .refl i
  | step a _ ih => exact .step (h _ _ a) ih
theorem sem_eq (l : List Int) : ∀ (n m : Nat) (x : T_pc), wt x ≤ n → wt x ≤ m → ∀ i j, Sem n l x i j ↔ Sem m l x i j
  | 0, _, x, h, _, _, _ => by have := wt_pos x; omega
  | _, 0, x, _, h, _, _ => by have := wt_pos x; omega
  | n + 1, m + 1, x, h1, h2, i, j => by
    have ih : ∀ q ∈ x.parts, ∀ i j, Sem n l q i j ↔ Sem m l q i j := fun q hq i j => by
      have := wt_parts hq
      exact sem_eq l n m q (by omega) (by omega) i j
    have st : ∀ q, x.parts = [q] → ∀ i j, Sem n l q i j ↔ Sem m l q i j := fun q hq => ih q (by rw [hq]; exact List.mem_cons_self ..)
    simp only [Sem]
    refine or_congr (and_congr Iff.rfl (schain_congr _ ih i j)) (or_congr (and_congr Iff.rfl ?_) (or_congr Iff.rfl (or_congr Iff.rfl (or_congr Iff.rfl (or_congr Iff.rfl (or_congr (and_congr Iff.rfl ?_) (or_congr (and_congr Iff.rfl ?_) (and_congr Iff.rfl ?_))))))))
    · constructor
      · rintro ⟨y, hy, h⟩; exact ⟨y, hy, (ih y hy _ _).1 h⟩
      · rintro ⟨y, hy, h⟩; exact ⟨y, hy, (ih y hy _ _).2 h⟩
    · constructor
      · rintro ⟨q, u, hq, a, b⟩; exact ⟨q, u, hq, (st q hq _ _).1 a, star_congr (fun i j => (st q hq i j).1) b⟩
      · rintro ⟨q, u, hq, a, b⟩; exact ⟨q, u, hq, (st q hq _ _).2 a, star_congr (fun i j => (st q hq i j).2) b⟩
    · constructor
      · rintro ⟨q, hq, b⟩; exact ⟨q, hq, star_congr (fun i j => (st q hq i j).1) b⟩
      · rintro ⟨q, hq, b⟩; exact ⟨q, hq, star_congr (fun i j => (st q hq i j).2) b⟩
    · constructor
      · rintro ⟨q, hq, b⟩; exact ⟨q, hq, b.imp id (st q hq i j).1⟩
      · rintro ⟨q, hq, b⟩; exact ⟨q, hq, b.imp id (st q hq i j).2⟩
theorem schain_le {S : T_pc → Nat → Nat → Prop} (h : ∀ x i j, S x i j → i ≤ j) : ∀ (l : List T_pc) (i j : Nat), schain S l i j → i ≤ j
  | [], i, j, e => Nat.le_of_eq e
  | x :: l, i, j, ⟨m, a, b⟩ => Nat.le_trans (h _ _ _ a) (schain_le h l m j b)
theorem star_le {R : Nat → Nat → Prop} (h : ∀ i j, R i j → i ≤ j) {i j : Nat} (hs : Star R i j) : i ≤ j := by
  induction hs with
  | refl i => exact Nat.le_refl _
  | step a _ ih => exact Nat.le_trans (h _ _ a) ih
theorem sem_le (l : List Int) : ∀ (n : Nat) (x : T_pc) (i j : Nat), Sem n l x i j → i ≤ j
  | 0, _, _, _, h => h.elim
  | n + 1, x, i, j, h => by
    have ih := sem_le l n
    rcases h with ⟨_, h⟩ | ⟨_, y, _, h⟩ | ⟨_, rfl, _⟩ | ⟨_, rfl, _⟩ | ⟨_, rfl, _⟩ | ⟨_, rfl, _⟩ | ⟨_, q, m, _, h1, h2⟩ | ⟨_, q, _, h⟩ | ⟨_, q, _, rfl | h⟩
    · exact schain_le ih _ _ _ h
    · exact ih _ _ _ h
    · omega
    · omega
    · omega
    · omega
    · exact Nat.le_trans (ih _ _ _ h1) (star_le (ih q) h2)
    · exact star_le (ih q) h
    · omega
    · exact ih _ _ _ h
end Go.Proofs.YtafnenafbognkaaGreatDoor
namespace Go.Proofs.YtafnenafbognkaaGreatDoor
open Sp
set_option maxRecDepth 100000
set_option maxHeartbeats 4000000
inductive RowT (rest : List T_sg) : List (T_pc × List T_sg) → List T_sg → Prop
  | nil {L : List T_sg} : dsp L = dsp rest → RowT rest [] L
  | cons {z : T_pc × List T_sg} {zs : List (T_pc × List T_sg)} {L T : List T_sg} : dsp L = z.2 ++ T → ItemP z.1 z.2 → RowT rest zs T → RowT rest (z :: zs) L
theorem RowT.stop {rest : List T_sg} (hst : stopR rest) {zs : List (T_pc × List T_sg)} {T : List T_sg} (h : RowT rest zs T) : ¬ (hd (dsp T)).c = 42 ∧ ¬ (hd (dsp T)).c = 43 ∧ ¬ (hd (dsp T)).c = 63 := by
  cases h with
  | nil h => rw [h]; rcases hst.2 with h | h | h <;> rw [h] <;> decide
  | cons h hi _ =>
    obtain ⟨x2, tk2, h2, hx2, _⟩ := hi
    rw [h, h2]
    exact ⟨hx2.1.2.1, hx2.1.2.2.1, hx2.1.2.2.2⟩
theorem sem_k0 {n : Nat} {l : List Int} {x : T_pc} {i j : Nat} (hx : x.kind = 0) : Sem (n + 1) l x i j ↔ schain (Sem n l) x.parts i j := by
  constructor
  · rintro (⟨_, h⟩ | ⟨hk, _⟩ | ⟨hk | hk, _⟩ | ⟨hk, _⟩ | ⟨hk, _⟩ | ⟨hk, _⟩ | ⟨hk, _⟩ | ⟨hk, _⟩ | ⟨hk, _⟩)
    · exact h
    all_goals (exfalso; omega)
  · intro h; exact .inl ⟨hx, h⟩
theorem sem_k1 {n : Nat} {l : List Int} {x : T_pc} {i j : Nat} (hx : x.kind = 1) : Sem (n + 1) l x i j ↔ ∃ y ∈ x.parts, Sem n l y i j := by
  constructor
  · rintro (⟨hk, _⟩ | ⟨_, h⟩ | ⟨hk | hk, _⟩ | ⟨hk, _⟩ | ⟨hk, _⟩ | ⟨hk, _⟩ | ⟨hk, _⟩ | ⟨hk, _⟩ | ⟨hk, _⟩)
    · exfalso; omega
    · exact h
    all_goals (exfalso; omega)
  · intro h; exact .inr (.inl ⟨hx, h⟩)
theorem sem_k5 {n : Nat} {l : List Int} {x : T_pc} {i j : Nat} (hx : x.kind = 5) : Sem (n + 1) l x i j ↔ j = i ∧ i = 0 := by
  constructor
  · rintro (⟨hk, _⟩ | ⟨hk, _⟩ | ⟨hk | hk, _⟩ | ⟨hk, _⟩ | ⟨_, h⟩ | ⟨hk, _⟩ | ⟨hk, _⟩ | ⟨hk, _⟩ | ⟨hk, _⟩)
    case inr.inr.inr.inr.inl => exact h
    all_goals (exfalso; omega)
  · intro h; exact .inr (.inr (.inr (.inr (.inl ⟨hx, h⟩))))
theorem sem_k6 {n : Nat} {l : List Int} {x : T_pc} {i j : Nat} (hx : x.kind = 6) : Sem (n + 1) l x i j ↔ j = i ∧ i = l.length := by
  constructor
  · rintro (⟨hk, _⟩ | ⟨hk, _⟩ | ⟨hk | hk, _⟩ | ⟨hk, _⟩ | ⟨hk, _⟩ | ⟨_, h⟩ | ⟨hk, _⟩ | ⟨hk, _⟩ | ⟨hk, _⟩)
    case inr.inr.inr.inr.inr.inl => exact h
    all_goals (exfalso; omega)
  · intro h; exact .inr (.inr (.inr (.inr (.inr (.inl ⟨hx, h⟩)))))
end Go.Proofs.YtafnenafbognkaaGreatDoor
