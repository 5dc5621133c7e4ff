/-
  Parts of the proof, merged: MatchesLaw.
-/
import Derived.KernelRfl
import Derived.Test.YtkkflfmonidepaaDoorW12
namespace Go.Proofs.YtkkflfmonidepaaDoor
open Sp
set_option maxRecDepth 100000
set_option maxHeartbeats 4000000
theorem awakeM : speculumlaw11_awake.f 10000000 = some true := by kernel_rfl
theorem u32_wf {x : Int} (h : (Go.Lit.int .u32 x).wf = true) : 0 ≤ x ∧ x < 4294967296 := by
  simp [Go.Lit.wf, Go.IntKind.min, Go.IntKind.max, Go.IntKind.signed, Go.IntKind.bits] at h
  omega
theorem matches_law (x0 : ByteArray) (x1 : List Int) (_ : x0.size ≤ Go.maxLen) (o1 : x1.length ≤ Go.maxLen ∧ ∀ x ∈ x1, (Go.Lit.int .u32 x).wf = true) : ∃ k, speculumlaw11_RegexMatches.f k x0 x1 = some true := by
  refine ⟨10000000, ?_⟩
  rw [speculumlaw11_RegexMatches.f]
  simp only [awakeM, Option.bind_some]
  split
  · rfl
  · split
    · rfl
    · rename_i hs hl
      have hd := B_data x0
      have hsz := size_data x0
      generalize hxl : x0.data.toList = t at *
      subst hd
      obtain ⟨r, s, e1, e2, h1, h2, h3⟩ := match_both (k := 10000000) (by decide) t (by omega)
      obtain ⟨b, m1, m2, m3⟩ := h3 x1 (by omega) fun x hx => u32_wf (o1.2 x hx)
      rw [e1, Option.bind_some, e2, Option.bind_some, ← h1]
      by_cases h0 : r.2 = 0
      · rw [if_pos h0, m1, Option.bind_some, m2 h0, Option.bind_some, if_pos rfl]
      · rw [if_neg h0, m1, Option.bind_some, m3 h0]
        rfl
end Go.Proofs.YtkkflfmonidepaaDoor
