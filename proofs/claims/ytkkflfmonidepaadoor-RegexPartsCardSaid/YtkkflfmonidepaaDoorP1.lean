/-
  THE PARSER OF PATTERNS, AS PLAIN LEAN: it ends on any signs; what it gives without a fault is well formed.
-/
import Derived.Test.YtkkflfmonidepaaDoorFs
namespace Go.Proofs.YtkkflfmonidepaaDoor
open Sp
set_option maxRecDepth 100000
set_option maxHeartbeats 4000000

theorem i64_id {n : Int} (h0 : -9223372036854775808 ≤ n) (h1 : n < 9223372036854775808) : i64 n = n := by
  unfold i64 Go.IntKind.wrap
  simp only [Go.IntKind.signed, Go.IntKind.bits]
  simp
  omega
theorem lat_nat {α : Type} (l : List α) (n : Nat) : lat l (n : Int) = l[n]? := by simp [lat]
theorem lat_lt {α : Type} {l : List α} {j : Int} (h0 : 0 ≤ j) (h1 : j < l.length) : ∃ x, lat l j = some x ∧ l[j.toNat]? = some x := by
  have h : j.toNat < l.length := by omega
  exact ⟨l[j.toNat], by simp [lat, h0, h], by simp [h]⟩
theorem app_small {α : Type} {b : Nat} {l m : List α} (h : (l.length + m.length) * b ≤ 140737488355328) (hb : 0 < b) : app b l m = some (l ++ m) := by
  unfold app
  rw [if_pos]
  refine ⟨h, ?_⟩
  have : l.length + m.length ≤ (l.length + m.length) * b := Nat.le_mul_of_pos_right _ hb
  unfold Go.maxLen
  omega

/-! ### The reader -/

/-- Signs without the blanks ahead. -/
def dsp : List T_regex_sign → List T_regex_sign
  | [] => []
  | x :: l => if x.c = 32 then dsp l else x :: l
theorem dsp_len : ∀ l, (dsp l).length ≤ l.length
  | [] => Nat.le_refl _
  | x :: l => by unfold dsp; split; exact Nat.le_succ_of_le (dsp_len l); exact Nat.le_refl _
theorem dsp_head : ∀ {l x r}, dsp l = x :: r → ¬ x.c = 32
  | [], _, _, h => by cases h
  | y :: l, x, r, h => by
    unfold dsp at h; split at h
    · exact dsp_head h
    · obtain ⟨rfl, _⟩ := List.cons.inj h; assumption
def hd : List T_regex_sign → T_regex_sign
  | [] => ⟨0, 0, false⟩
  | x :: _ => x
theorem dsp_dsp : ∀ l, dsp (dsp l) = dsp l
  | [] => rfl
  | x :: l => by
    by_cases h : x.c = 32
    · simp [dsp, h, dsp_dsp l]
    · simp [dsp, h]

theorem peek_l0 : ∀ (k : Nat) (l : List T_regex_sign), l.length < k → regex_reader_peek.l0 k l = some (dsp l)
  | 0, _, h => by omega
  | k + 1, [], _ => by rw [regex_reader_peek.l0]; simp [dsp]
  | k + 1, x :: l, h => by
    rw [regex_reader_peek.l0]
    rw [if_pos (by simp)]
    have h1 : lat (x :: l) 0 = some x := rfl
    rw [h1]
    simp only [Option.bind_some]
    have h2 : cutL (x :: l) 1 = some l := by simp [cutL]; omega
    unfold dsp
    split
    · rw [h2]
      simp only [Option.bind_some]
      exact peek_l0 k l (by simp at h; omega)
    · rfl
theorem peek_eq {k : Nat} {l : List T_regex_sign} {b : Bool} (h : l.length < k) : regex_reader_peek.f k ⟨l, b⟩ = some (hd (dsp l), ⟨dsp l, b⟩) := by
  rw [regex_reader_peek.f, peek_l0 k l h]
  simp only [Option.bind_some]
  cases hd' : dsp l with
  | nil => simp [hd]
  | cons x r =>
    rw [if_neg (by simp; omega)]
    rfl
theorem next_eq {k : Nat} {l : List T_regex_sign} {b : Bool} (h : l.length < k) : regex_reader_next.f k ⟨l, b⟩ = some (hd (dsp l), ⟨(dsp l).tail, b⟩) := by
  rw [regex_reader_next.f, peek_eq h]
  simp only [Option.bind_some]
  cases hd' : dsp l with
  | nil => simp [hd]
  | cons x r =>
    rw [if_pos (by simp)]
    have h2 : cutL (x :: r) 1 = some r := by simp [cutL]; omega
    rw [h2]
    rfl
theorem tail_len (l : List T_regex_sign) : (dsp l).tail.length ≤ l.length := by
  have := dsp_len l
  simp; omega

/-! ### Well formed pieces, and their weight -/

mutual
def wt : T_regex_piece → Nat
  | ⟨_, ps, ss, _⟩ => 1 + wts ps + ss.length
def wts : List T_regex_piece → Nat
  | [] => 0
  | p :: ps => wt p + wts ps
end
theorem wts_app : ∀ a b, wts (a ++ b) = wts a + wts b
  | [], b => by simp [wts]
  | x :: a, b => by simp only [List.cons_append, wts, wts_app a b]; omega
theorem wts_len : ∀ l, l.length ≤ wts l
  | [] => Nat.le_refl _
  | ⟨_, _, _, _⟩ :: l => by simp only [wts, wt, List.length_cons]; have := wts_len l; omega

def num32 (n : Int) : Prop := 0 ≤ n ∧ n < 4294967296
def spanOk (s : T_regex_span) : Prop := num32 s.from_ ∧ num32 s.to_ ∧ s.from_ ≤ s.to_
/-- 0: an item of a row; 1: a row; 2: choices. -/
inductive WF : Nat → T_regex_piece → Prop
  | num {n : Int} : num32 n → WF 0 ⟨2, [], [⟨n, n⟩], false⟩
  | any : WF 0 ⟨3, [], [], false⟩
  | start : WF 0 ⟨5, [], [], false⟩
  | stop : WF 0 ⟨6, [], [], false⟩
  | set {ss : List T_regex_span} {b : Bool} : ss ≠ [] → (∀ s ∈ ss, spanOk s) → WF 0 ⟨4, [], ss, b⟩
  | par {p : T_regex_piece} : WF 2 p → WF 0 p
  | rep {k : Int} {p : T_regex_piece} : (k = 7 ∨ k = 8 ∨ k = 9) → WF 0 p → WF 0 ⟨k, [p], [], false⟩
  | row {ps : List T_regex_piece} : (∀ x ∈ ps, WF 0 x) → WF 1 ⟨0, ps, [], false⟩
  | choice {ps : List T_regex_piece} : ps ≠ [] → (∀ x ∈ ps, WF 1 x) → WF 2 ⟨1, ps, [], false⟩

/-- What signs are. -/
def signOk (x : T_regex_sign) : Prop := (x.digits = true → num32 x.n ∧ x.c = 0) ∧ (x.digits = false → ¬ x.c = 0)
def sgs (l : List T_regex_sign) : Prop := ∀ x ∈ l, signOk x
theorem sgs_dsp : ∀ {l}, sgs l → sgs (dsp l)
  | [], h => h
  | x :: l, h => by
    unfold dsp; split
    · exact sgs_dsp fun y hy => h y (List.mem_cons_of_mem _ hy)
    · exact h
theorem sgs_tail {l} (h : sgs l) : sgs (dsp l).tail := fun x hx => sgs_dsp h x (List.mem_of_mem_tail hx)

/-! ### Repeats -/

theorem repeats_l0 : ∀ (k : Nat) (p : T_regex_piece) (l : List T_regex_sign) (b : Bool), l.length + 1 < k → sgs l →
    ∃ q r, regex_reader_repeats.l0 k p.kind p.parts p.spans p.not l b = some (.inl (q, r)) ∧ r.rest.length ≤ l.length ∧ r.bad = b ∧ sgs r.rest ∧ wt q + r.rest.length ≤ wt p + l.length ∧ (WF 0 p → WF 0 q)
  | 0, _, _, _, h, _ => by omega
  | k + 1, p, l, b, h, hs => by
    rw [regex_reader_repeats.l0, peek_eq (by omega)]
    simp only [Option.bind_some]
    have hn : regex_reader_next.f k ⟨dsp l, b⟩ = some (hd (dsp (dsp l)), ⟨(dsp (dsp l)).tail, b⟩) := next_eq (by have := dsp_len l; omega)
    rw [dsp_dsp] at hn
    have hp : (⟨p.kind, p.parts, p.spans, p.not⟩ : T_regex_piece) = p := by cases p; rfl
    have step : ∀ c : Int, (c = 7 ∨ c = 8 ∨ c = 9) → (hd (dsp l)).c ≠ 0 → ∃ q r, regex_reader_repeats.l0 k c [p] [] false (dsp l).tail b = some (.inl (q, r)) ∧ r.rest.length ≤ l.length ∧ r.bad = b ∧ sgs r.rest ∧ wt q + r.rest.length ≤ wt p + l.length ∧ (WF 0 p → WF 0 q) := by
      intro c hc h0
      have hne : (dsp l).tail.length + 1 ≤ l.length := by
        cases hd' : dsp l with
        | nil => rw [hd'] at h0; exact absurd rfl h0
        | cons x r => have := dsp_len l; rw [hd'] at this; simpa using this
      obtain ⟨q, r, e, h1, h2, h3, h4, h5⟩ := repeats_l0 k ⟨c, [p], [], false⟩ (dsp l).tail b (by omega) (sgs_tail hs)
      refine ⟨q, r, e, by omega, h2, h3, ?_, fun hw => h5 (.rep hc hw)⟩
      simp only [wt, wts, List.length_nil] at h4
      omega
    rw [hp]
    split
    · rename_i hc
      rw [hn]; simp only [Option.bind_some]
      exact step 7 (.inl rfl) (by rw [hc]; decide)
    · split
      · rename_i hc
        rw [hn]; simp only [Option.bind_some]
        exact step 8 (.inr (.inl rfl)) (by rw [hc]; decide)
      · split
        · rename_i hc
          rw [hn]; simp only [Option.bind_some]
          exact step 9 (.inr (.inr rfl)) (by rw [hc]; decide)
        · exact ⟨p, ⟨dsp l, b⟩, rfl, dsp_len l, rfl, sgs_dsp hs, by have := dsp_len l; show wt p + (dsp l).length ≤ _; omega, id⟩
theorem repeats_ok {k : Nat} {p : T_regex_piece} {l : List T_regex_sign} {b : Bool} (h : l.length + 1 < k) (hs : sgs l) :
    ∃ q r, regex_reader_repeats.f k ⟨l, b⟩ p = some (q, r) ∧ r.rest.length ≤ l.length ∧ r.bad = b ∧ sgs r.rest ∧ wt q + r.rest.length ≤ wt p + l.length ∧ (WF 0 p → WF 0 q) := by
  obtain ⟨q, r, e, h'⟩ := repeats_l0 k p l b h hs
  exact ⟨q, r, by rw [regex_reader_repeats.f, e]; rfl, h'⟩
end Go.Proofs.YtkkflfmonidepaaDoor
