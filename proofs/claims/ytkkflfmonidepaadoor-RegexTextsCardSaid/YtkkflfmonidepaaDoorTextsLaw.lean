/-
  HOW A PATTERN IS WRITTEN IS A PATTERN, that matches the same and is written so: said of the plain function that RegexTexts computes.
-/
import Derived.Test.YtkkflfmonidepaaDoorP11
import Derived.KernelRfl
namespace Go.Proofs.YtkkflfmonidepaaDoor
open Sp
set_option maxRecDepth 100000
set_option maxHeartbeats 4000000

theorem awakeB : speculumlaw11_awake.f 10000000 = some true := by kernel_rfl
theorem texts_law (x0 : ByteArray) (x1 : List Int) (_ : x0.size ≤ Go.maxLen) (_ : x1.length ≤ Go.maxLen ∧ ∀ x ∈ x1, (Go.Lit.int .u32 x).wf = true) : ∃ k, speculumlaw11_RegexTexts.f k x0 x1 = some true := by
  refine ⟨10000000, ?_⟩
  rw [speculumlaw11_RegexTexts.f]
  simp only [awakeB, Option.bind_some]
  split
  · rfl
  · split
    · rfl
    · rename_i hs hl
      obtain ⟨r, e, h⟩ := parse_ok (k := 10000000) (by omega) x0 (by omega)
      rw [e, Option.bind_some]
      rcases h with rfl | rfl | ⟨p, rfl, hp⟩
      · rw [if_neg (by show ¬ (4 : Int) = 0; decide)]
      · rw [if_neg (by show ¬ (14 : Int) = 0; decide)]
      · rw [if_pos rfl]
        obtain ⟨t, et, ht⟩ := text_pat (k := 10000000) (by omega) hp
        have hz : regex_Expr_Size.f 10000000 (some p) = some (((B t).size : Nat) : Int) := by
          rw [regex_Expr_Size.f, et]; rfl
        simp only [Option.isNone_some, Bool.false_eq_true, if_false, hz, Option.bind_some]
        rw [B_size]
        by_cases hlen : ((t.length : Nat) : Int) > 100
        · rw [if_pos hlen]
        · rw [if_neg hlen]
          obtain ⟨b, eb⟩ := pat_match (k := 10000000) (by omega) hp x1 (by omega)
          simp only [et, Option.bind_some, ht (by omega), eb, if_true]
end Go.Proofs.YtkkflfmonidepaaDoor
