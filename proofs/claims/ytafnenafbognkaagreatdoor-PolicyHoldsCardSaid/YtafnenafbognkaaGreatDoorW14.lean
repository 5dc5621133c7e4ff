/-
  Parts of the proof, merged: A2, A3, OpensW, A4, A5.
-/
import Derived.KernelRfl
import Derived.Test.YtafnenafbognkaaGreatDoorW13
namespace Go.Proofs.YtafnenafbognkaaGreatDoor
open Sp
set_option maxRecDepth 100000
set_option maxHeartbeats 4000000
theorem wf32 {x : Int} (h : (Go.Lit.int .u32 x).wf = true) : 0 ≤ x ∧ x < 4294967296 := by
  simp [Go.Lit.wf, Go.IntKind.min, Go.IntKind.max, Go.IntKind.signed, Go.IntKind.bits] at h
  omega
theorem okP_of {p : T_api_Prefix} (h : ok_api_Prefix p) : okP p := wf32 h.1
theorem B_data (x : ByteArray) : B x.data.toList = x := by
  obtain ⟨d⟩ := x
  show (⟨d.toList.toArray⟩ : ByteArray) = ⟨d⟩
  rw [Array.toArray_toList]
theorem size_data (x : ByteArray) : x.data.toList.length = x.size := by
  show x.data.toList.length = x.data.size
  exact Array.length_toList
structure PatOf (s : ByteArray) (c : Int) (M : List Int → Bool) : Prop where
  code : c = 0 ∨ c = 4 ∨ c = 14
  none : ¬ c = 0 → ∀ l, M l = false
  run : ∀ k, 5000000 ≤ k → ∃ r q, regex_Parse.f k s = some r ∧ r11_Parse.f k s = some q ∧ r.2 = c ∧ q.2.2 = c ∧
    ∀ l : List Int, l.length ≤ 900 → (∀ x ∈ l, 0 ≤ x ∧ x < 4294967296) → regex_Expr_Match.f k r.1 l = some (M l) ∧ (c = 0 → r11_P_Match.f k q.1 q.2.1 l = some (M l))
theorem patOf (s : ByteArray) (h : s.size ≤ 200) : ∃ c M, PatOf s c M := by
  have hd := B_data s
  have hsz := size_data s
  obtain ⟨c, M, h1, h2, h3⟩ := pat_fix s.data.toList (by omega)
  rw [hd] at h3
  exact ⟨c, M, h1, h2, h3⟩
def okC (c : T_api_Cond) : Prop := ok_api_Cond c ∧ c.Text.size ≤ 200 ∧ c.Range.length ≤ 30
end Go.Proofs.YtafnenafbognkaaGreatDoor
namespace Go.Proofs.YtafnenafbognkaaGreatDoor
open Sp
set_option maxRecDepth 100000
set_option maxHeartbeats 4000000
theorem mn_le (a b : Int) : mn a b ≤ b := by unfold mn; split <;> omega
theorem mn_nn {a b : Int} (ha : 0 ≤ a) (hb : 0 ≤ b) : 0 ≤ mn a b := by unfold mn; split <;> omega
def fewC (c : T_api_Cond) : Bool := decide ((c.Range.length : Int) ≤ 30) && (decide ((c.Text.size : Int) ≤ 200) && decide ((c.Comms.length : Int) ≤ 60))
theorem fewC_ok (k : Nat) (c : T_api_Cond) : w14_FewCond.f k c = some (fewC c) := by
  rw [w14_FewCond.f]
  unfold fewC
  split
  · rename_i h
    rw [decide_eq_true h]
    split
    · rename_i h; rw [decide_eq_true h]; rfl
    · rename_i h; rw [decide_eq_false h]; rfl
  · rename_i h; rw [decide_eq_false h]; rfl
theorem okC_of {c : T_api_Cond} (h : ok_api_Cond c) (hf : fewC c = true) : okC c := by
  unfold fewC at hf
  simp only [Bool.and_eq_true, decide_eq_true_eq] at hf
  exact ⟨h, by omega, by omega⟩
end Go.Proofs.YtafnenafbognkaaGreatDoor
namespace Go.Proofs.YtafnenafbognkaaGreatDoor
open Sp
set_option maxRecDepth 100000
set_option maxHeartbeats 4000000
def wk_api_Prefix (x : T_api_Prefix) : Prop := (fun _ => True) x.Addr ∧ (fun _ => True) x.Len
theorem opnw36 : OpnW Tryz.prog 36 R_api_Prefix ok_api_Prefix wk_api_Prefix := by
  intro H enc W base spare held fuel cs y h hw
  have hl := opnLen (n := 2) (by kernel_rfl) (by kernel_rfl) h
  obtain ⟨d0, r0, o0, k0⟩ := opnFldW (i := 0) (off := 0) (ft := 23) (sz := 1) (by kernel_rfl) (OpnW.of (Opn.int Tryz.underlying23)) h hw
  obtain ⟨d1, r1, o1, k1⟩ := opnFldW (i := 1) (off := 1) (ft := 3) (sz := 1) (by kernel_rfl) (OpnW.of (Opn.int Tryz.underlying3)) h hw
  obtain ⟨c0, cs0, rfl, hl0⟩ := lenS hl
  obtain ⟨c1, cs1, rfl, hl1⟩ := lenS hl0
  obtain rfl := List.length_eq_zero_iff.1 hl1
  obtain rfl := (List.cons.inj (show [c0] = [_] from r0)).1
  obtain rfl := (List.cons.inj (show [c1] = [_] from r1)).1
  exact ⟨⟨d0, d1⟩, rfl, ⟨o0, o1⟩, ⟨k0, k1⟩⟩
def wk_api_Range (x : T_api_Range) : Prop := wk_api_Prefix x.Prefix ∧ (fun _ => True) x.Min ∧ (fun _ => True) x.Max
theorem opnw69 : OpnW Tryz.prog 69 R_api_Range ok_api_Range wk_api_Range := by
  intro H enc W base spare held fuel cs y h hw
  have hl := opnLen (n := 4) (by kernel_rfl) (by kernel_rfl) h
  obtain ⟨d0, r0, o0, k0⟩ := opnFldW (i := 0) (off := 0) (ft := 36) (sz := 2) (by kernel_rfl) opnw36 h hw
  obtain ⟨d1, r1, o1, k1⟩ := opnFldW (i := 1) (off := 2) (ft := 3) (sz := 1) (by kernel_rfl) (OpnW.of (Opn.int Tryz.underlying3)) h hw
  obtain ⟨d2, r2, o2, k2⟩ := opnFldW (i := 2) (off := 3) (ft := 3) (sz := 1) (by kernel_rfl) (OpnW.of (Opn.int Tryz.underlying3)) h hw
  obtain ⟨c0, cs0, rfl, hl0⟩ := lenS hl
  obtain ⟨c1, cs1, rfl, hl1⟩ := lenS hl0
  obtain ⟨c2, cs2, rfl, hl2⟩ := lenS hl1
  obtain ⟨c3, cs3, rfl, hl3⟩ := lenS hl2
  obtain rfl := List.length_eq_zero_iff.1 hl3
  have q0 := r0
  have q0 : [c0, c1] = [_, _] := q0
  simp only [List.cons.injEq, and_true] at q0
  obtain ⟨rfl, rfl⟩ := q0
  obtain rfl := (List.cons.inj (show [c2] = [_] from r1)).1
  obtain rfl := (List.cons.inj (show [c3] = [_] from r2)).1
  exact ⟨⟨d0, d1, d2⟩, rfl, ⟨o0, o1, o2⟩, ⟨k0, k1, k2⟩⟩
def wk_api_Cond (x : T_api_Cond) : Prop := (fun _ => True) x.Kind ∧ (fun _ => True) x.Not ∧ (fun _ => True) x.Num ∧ (fun _ => True) x.Addr ∧ (fun s => s.size ≤ Go.reachBytes) x.Text ∧ (fun l => l.length * 32 ≤ Go.reachBytes ∧ ∀ x ∈ l, wk_api_Range x) x.Range ∧ (fun l => l.length * 4 ≤ Go.reachBytes ∧ ∀ x ∈ l, (fun _ => True) x) x.Comms
theorem opnw27 : OpnW Tryz.prog 27 R_api_Cond ok_api_Cond wk_api_Cond := by
  intro H enc W base spare held fuel cs y h hw
  have hl := opnLen (n := 7) (by kernel_rfl) (by kernel_rfl) h
  obtain ⟨d0, r0, o0, k0⟩ := opnFldW (i := 0) (off := 0) (ft := 3) (sz := 1) (by kernel_rfl) (OpnW.of (Opn.int Tryz.underlying3)) h hw
  obtain ⟨d1, r1, o1, k1⟩ := opnFldW (i := 1) (off := 1) (ft := 4) (sz := 1) (by kernel_rfl) (OpnW.of (Opn.bool Tryz.underlying4)) h hw
  obtain ⟨d2, r2, o2, k2⟩ := opnFldW (i := 2) (off := 2) (ft := 3) (sz := 1) (by kernel_rfl) (OpnW.of (Opn.int Tryz.underlying3)) h hw
  obtain ⟨d3, r3, o3, k3⟩ := opnFldW (i := 3) (off := 3) (ft := 23) (sz := 1) (by kernel_rfl) (OpnW.of (Opn.int Tryz.underlying23)) h hw
  obtain ⟨d4, r4, o4, k4⟩ := opnFldW (i := 4) (off := 4) (ft := 9) (sz := 1) (by kernel_rfl) (OpnW.string Tryz.underlying9) h hw
  obtain ⟨d5, r5, o5, k5⟩ := opnFldW (i := 5) (off := 5) (ft := 24) (sz := 1) (by kernel_rfl) (OpnW.slice Tryz.underlying24 (r := R_api_Range) (by' := 32) (by kernel_rfl) (by kernel_rfl) rfl opnw69) h hw
  obtain ⟨d6, r6, o6, k6⟩ := opnFldW (i := 6) (off := 6) (ft := 25) (sz := 1) (by kernel_rfl) (OpnW.slice Tryz.underlying25 (r := (tInt' .u32)) (by' := 4) (by kernel_rfl) (by kernel_rfl) rfl (OpnW.of (Opn.int Tryz.underlying23))) h hw
  obtain ⟨c0, cs0, rfl, hl0⟩ := lenS hl
  obtain ⟨c1, cs1, rfl, hl1⟩ := lenS hl0
  obtain ⟨c2, cs2, rfl, hl2⟩ := lenS hl1
  obtain ⟨c3, cs3, rfl, hl3⟩ := lenS hl2
  obtain ⟨c4, cs4, rfl, hl4⟩ := lenS hl3
  obtain ⟨c5, cs5, rfl, hl5⟩ := lenS hl4
  obtain ⟨c6, cs6, rfl, hl6⟩ := lenS hl5
  obtain rfl := List.length_eq_zero_iff.1 hl6
  obtain rfl := (List.cons.inj (show [c0] = [_] from r0)).1
  obtain rfl := (List.cons.inj (show [c1] = [_] from r1)).1
  obtain rfl := (List.cons.inj (show [c2] = [_] from r2)).1
  obtain rfl := (List.cons.inj (show [c3] = [_] from r3)).1
  obtain rfl := (List.cons.inj (show [c4] = [_] from r4)).1
  obtain ⟨w5, q5, s5⟩ := r5
  obtain rfl := (List.cons.inj (show [c5] = [_] from q5)).1
  obtain ⟨w6, q6, s6⟩ := r6
  obtain rfl := (List.cons.inj (show [c6] = [_] from q6)).1
  exact ⟨⟨d0, d1, d2, d3, d4, d5, d6⟩, ⟨_, _, rfl, s5, s6⟩, ⟨o0, o1, o2, o3, o4, o5, o6⟩, ⟨k0, k1, k2, k3, k4, k5, k6⟩⟩
def wk_api_Segment (x : T_api_Segment) : Prop := (fun _ => True) x.Kind ∧ (fun l => l.length * 4 ≤ Go.reachBytes ∧ ∀ x ∈ l, (fun _ => True) x) x.AS
theorem opnw88 : OpnW Tryz.prog 88 R_api_Segment ok_api_Segment wk_api_Segment := by
  intro H enc W base spare held fuel cs y h hw
  have hl := opnLen (n := 2) (by kernel_rfl) (by kernel_rfl) h
  obtain ⟨d0, r0, o0, k0⟩ := opnFldW (i := 0) (off := 0) (ft := 3) (sz := 1) (by kernel_rfl) (OpnW.of (Opn.int Tryz.underlying3)) h hw
  obtain ⟨d1, r1, o1, k1⟩ := opnFldW (i := 1) (off := 1) (ft := 25) (sz := 1) (by kernel_rfl) (OpnW.slice Tryz.underlying25 (r := (tInt' .u32)) (by' := 4) (by kernel_rfl) (by kernel_rfl) rfl (OpnW.of (Opn.int Tryz.underlying23))) h hw
  obtain ⟨c0, cs0, rfl, hl0⟩ := lenS hl
  obtain ⟨c1, cs1, rfl, hl1⟩ := lenS hl0
  obtain rfl := List.length_eq_zero_iff.1 hl1
  obtain rfl := (List.cons.inj (show [c0] = [_] from r0)).1
  obtain ⟨w1, q1, s1⟩ := r1
  obtain rfl := (List.cons.inj (show [c1] = [_] from q1)).1
  exact ⟨⟨d0, d1⟩, ⟨_, rfl, s1⟩, ⟨o0, o1⟩, ⟨k0, k1⟩⟩
def wk_api_Raw (x : T_api_Raw) : Prop := (fun _ => True) x.Flags ∧ (fun _ => True) x.Type_ ∧ (fun l => l.length * 1 ≤ Go.reachBytes ∧ ∀ x ∈ l, (fun _ => True) x) x.Data
theorem opnw86 : OpnW Tryz.prog 86 R_api_Raw ok_api_Raw wk_api_Raw := by
  intro H enc W base spare held fuel cs y h hw
  have hl := opnLen (n := 3) (by kernel_rfl) (by kernel_rfl) h
  obtain ⟨d0, r0, o0, k0⟩ := opnFldW (i := 0) (off := 0) (ft := 3) (sz := 1) (by kernel_rfl) (OpnW.of (Opn.int Tryz.underlying3)) h hw
  obtain ⟨d1, r1, o1, k1⟩ := opnFldW (i := 1) (off := 1) (ft := 3) (sz := 1) (by kernel_rfl) (OpnW.of (Opn.int Tryz.underlying3)) h hw
  obtain ⟨d2, r2, o2, k2⟩ := opnFldW (i := 2) (off := 2) (ft := 84) (sz := 1) (by kernel_rfl) (OpnW.slice Tryz.underlying84 (r := (tInt' .u8)) (by' := 1) (by kernel_rfl) (by kernel_rfl) rfl (OpnW.of (Opn.int Tryz.underlying5))) h hw
  obtain ⟨c0, cs0, rfl, hl0⟩ := lenS hl
  obtain ⟨c1, cs1, rfl, hl1⟩ := lenS hl0
  obtain ⟨c2, cs2, rfl, hl2⟩ := lenS hl1
  obtain rfl := List.length_eq_zero_iff.1 hl2
  obtain rfl := (List.cons.inj (show [c0] = [_] from r0)).1
  obtain rfl := (List.cons.inj (show [c1] = [_] from r1)).1
  obtain ⟨w2, q2, s2⟩ := r2
  obtain rfl := (List.cons.inj (show [c2] = [_] from q2)).1
  exact ⟨⟨d0, d1, d2⟩, ⟨_, rfl, s2⟩, ⟨o0, o1, o2⟩, ⟨k0, k1, k2⟩⟩
def wk_api_Attrs (x : T_api_Attrs) : Prop := (fun _ => True) x.Origin ∧ (fun l => l.length * 32 ≤ Go.reachBytes ∧ ∀ x ∈ l, wk_api_Segment x) x.Path ∧ (fun _ => True) x.Next ∧ (fun _ => True) x.Med ∧ (fun _ => True) x.Pref ∧ (fun _ => True) x.Atomic ∧ (fun _ => True) x.HasAggr ∧ (fun _ => True) x.AggrAS ∧ (fun _ => True) x.AggrAddr ∧ (fun l => l.length * 4 ≤ Go.reachBytes ∧ ∀ x ∈ l, (fun _ => True) x) x.Comms ∧ (fun l => l.length * 40 ≤ Go.reachBytes ∧ ∀ x ∈ l, wk_api_Raw x) x.Raws
theorem opnw40 : OpnW Tryz.prog 40 R_api_Attrs ok_api_Attrs wk_api_Attrs := by
  intro H enc W base spare held fuel cs y h hw
  have hl := opnLen (n := 11) (by kernel_rfl) (by kernel_rfl) h
  obtain ⟨d0, r0, o0, k0⟩ := opnFldW (i := 0) (off := 0) (ft := 3) (sz := 1) (by kernel_rfl) (OpnW.of (Opn.int Tryz.underlying3)) h hw
  obtain ⟨d1, r1, o1, k1⟩ := opnFldW (i := 1) (off := 1) (ft := 37) (sz := 1) (by kernel_rfl) (OpnW.slice Tryz.underlying37 (r := R_api_Segment) (by' := 32) (by kernel_rfl) (by kernel_rfl) rfl opnw88) h hw
  obtain ⟨d2, r2, o2, k2⟩ := opnFldW (i := 2) (off := 2) (ft := 23) (sz := 1) (by kernel_rfl) (OpnW.of (Opn.int Tryz.underlying23)) h hw
  obtain ⟨d3, r3, o3, k3⟩ := opnFldW (i := 3) (off := 3) (ft := 3) (sz := 1) (by kernel_rfl) (OpnW.of (Opn.int Tryz.underlying3)) h hw
  obtain ⟨d4, r4, o4, k4⟩ := opnFldW (i := 4) (off := 4) (ft := 3) (sz := 1) (by kernel_rfl) (OpnW.of (Opn.int Tryz.underlying3)) h hw
  obtain ⟨d5, r5, o5, k5⟩ := opnFldW (i := 5) (off := 5) (ft := 4) (sz := 1) (by kernel_rfl) (OpnW.of (Opn.bool Tryz.underlying4)) h hw
  obtain ⟨d6, r6, o6, k6⟩ := opnFldW (i := 6) (off := 6) (ft := 4) (sz := 1) (by kernel_rfl) (OpnW.of (Opn.bool Tryz.underlying4)) h hw
  obtain ⟨d7, r7, o7, k7⟩ := opnFldW (i := 7) (off := 7) (ft := 23) (sz := 1) (by kernel_rfl) (OpnW.of (Opn.int Tryz.underlying23)) h hw
  obtain ⟨d8, r8, o8, k8⟩ := opnFldW (i := 8) (off := 8) (ft := 23) (sz := 1) (by kernel_rfl) (OpnW.of (Opn.int Tryz.underlying23)) h hw
  obtain ⟨d9, r9, o9, k9⟩ := opnFldW (i := 9) (off := 9) (ft := 25) (sz := 1) (by kernel_rfl) (OpnW.slice Tryz.underlying25 (r := (tInt' .u32)) (by' := 4) (by kernel_rfl) (by kernel_rfl) rfl (OpnW.of (Opn.int Tryz.underlying23))) h hw
  obtain ⟨d10, r10, o10, k10⟩ := opnFldW (i := 10) (off := 10) (ft := 38) (sz := 1) (by kernel_rfl) (OpnW.slice Tryz.underlying38 (r := R_api_Raw) (by' := 40) (by kernel_rfl) (by kernel_rfl) rfl opnw86) h hw
  obtain ⟨c0, cs0, rfl, hl0⟩ := lenS hl
  obtain ⟨c1, cs1, rfl, hl1⟩ := lenS hl0
  obtain ⟨c2, cs2, rfl, hl2⟩ := lenS hl1
  obtain ⟨c3, cs3, rfl, hl3⟩ := lenS hl2
  obtain ⟨c4, cs4, rfl, hl4⟩ := lenS hl3
  obtain ⟨c5, cs5, rfl, hl5⟩ := lenS hl4
  obtain ⟨c6, cs6, rfl, hl6⟩ := lenS hl5
  obtain ⟨c7, cs7, rfl, hl7⟩ := lenS hl6
  obtain ⟨c8, cs8, rfl, hl8⟩ := lenS hl7
  obtain ⟨c9, cs9, rfl, hl9⟩ := lenS hl8
  obtain ⟨c10, cs10, rfl, hl10⟩ := lenS hl9
  obtain rfl := List.length_eq_zero_iff.1 hl10
  obtain rfl := (List.cons.inj (show [c0] = [_] from r0)).1
  obtain ⟨w1, q1, s1⟩ := r1
  obtain rfl := (List.cons.inj (show [c1] = [_] from q1)).1
  obtain rfl := (List.cons.inj (show [c2] = [_] from r2)).1
  obtain rfl := (List.cons.inj (show [c3] = [_] from r3)).1
  obtain rfl := (List.cons.inj (show [c4] = [_] from r4)).1
  obtain rfl := (List.cons.inj (show [c5] = [_] from r5)).1
  obtain rfl := (List.cons.inj (show [c6] = [_] from r6)).1
  obtain rfl := (List.cons.inj (show [c7] = [_] from r7)).1
  obtain rfl := (List.cons.inj (show [c8] = [_] from r8)).1
  obtain ⟨w9, q9, s9⟩ := r9
  obtain rfl := (List.cons.inj (show [c9] = [_] from q9)).1
  obtain ⟨w10, q10, s10⟩ := r10
  obtain rfl := (List.cons.inj (show [c10] = [_] from q10)).1
  exact ⟨⟨d0, d1, d2, d3, d4, d5, d6, d7, d8, d9, d10⟩, ⟨_, _, _, rfl, s1, s9, s10⟩, ⟨o0, o1, o2, o3, o4, o5, o6, o7, o8, o9, o10⟩, ⟨k0, k1, k2, k3, k4, k5, k6, k7, k8, k9, k10⟩⟩
end Go.Proofs.YtafnenafbognkaaGreatDoor
namespace Go.Proofs.YtafnenafbognkaaGreatDoor
open Sp
set_option maxRecDepth 100000
set_option maxHeartbeats 4000000
theorem mask_bit : ∀ n : Fin 33, ∀ i : Fin 32, (4294967296 - 2 ^ (32 - n.val)).testBit i.val = decide (32 - n.val ≤ i.val) := by decide
theorem and_mask {X n : Nat} (hX : X < 4294967296) (hn : n ≤ 32) : X &&& (4294967296 - 2 ^ (32 - n)) = 0 ↔ X / 2 ^ (32 - n) = 0 := by
  rw [← Nat.shiftRight_eq_div_pow]
  constructor
  · intro h
    apply Nat.eq_of_testBit_eq
    intro i
    rw [Nat.testBit_shiftRight, Nat.zero_testBit]
    by_cases hi : 32 - n + i < 32
    · have h1 := congrArg (fun z => Nat.testBit z (32 - n + i)) h
      simp only [Nat.testBit_and, Nat.zero_testBit] at h1
      have h2 := mask_bit ⟨n, by omega⟩ ⟨32 - n + i, hi⟩
      simp only at h2
      rw [h2] at h1
      simpa using h1
    · exact Nat.testBit_lt_two_pow (Nat.lt_of_lt_of_le hX (show 2 ^ 32 ≤ 2 ^ (32 - n + i) from Nat.pow_le_pow_right (by decide) (by omega)))
  · intro h
    apply Nat.eq_of_testBit_eq
    intro i
    rw [Nat.testBit_and, Nat.zero_testBit]
    by_cases hi : i < 32
    · have h2 := mask_bit ⟨n, by omega⟩ ⟨i, hi⟩
      simp only at h2
      rw [h2]
      by_cases hj : 32 - n ≤ i
      · have h1 := congrArg (fun z => Nat.testBit z (i - (32 - n))) h
        simp only [Nat.testBit_shiftRight, Nat.zero_testBit] at h1
        rw [show 32 - n + (i - (32 - n)) = i by omega] at h1
        rw [h1, Bool.false_and]
      · rw [decide_eq_false hj, Bool.and_false]
    · rw [Nat.testBit_lt_two_pow (Nat.lt_of_lt_of_le hX (show 2 ^ 32 ≤ 2 ^ i from Nat.pow_le_pow_right (by decide) (by omega))), Bool.false_and]
theorem xor_div (a b j : Nat) : (a ^^^ b) / 2 ^ j = 0 ↔ a / 2 ^ j = b / 2 ^ j := by
  rw [← Nat.shiftRight_eq_div_pow, ← Nat.shiftRight_eq_div_pow, ← Nat.shiftRight_eq_div_pow]
  constructor
  · intro h
    apply Nat.eq_of_testBit_eq
    intro i
    have h1 := congrArg (fun z => Nat.testBit z i) h
    simp only [Nat.testBit_shiftRight, Nat.testBit_xor, Nat.zero_testBit] at h1
    rw [Nat.testBit_shiftRight, Nat.testBit_shiftRight]
    revert h1
    cases a.testBit (j + i) <;> cases b.testBit (j + i) <;> simp
  · intro h
    apply Nat.eq_of_testBit_eq
    intro i
    have h1 := congrArg (fun z => Nat.testBit z i) h
    simp only [Nat.testBit_shiftRight] at h1
    rw [Nat.testBit_shiftRight, Nat.testBit_xor, Nat.zero_testBit, h1, Bool.xor_self]
theorem wrapU {n : Nat} (h : n < 4294967296) : Go.IntKind.wrap .u32 (n : Int) = (n : Int) := by
  unfold Go.IntKind.wrap
  simp only [Go.IntKind.signed, Go.IntKind.bits]
  simp
  omega
theorem bv32 (a : Nat) : BitVec.ofInt 32 (a : Int) = BitVec.ofNat 32 a := by
  apply BitVec.eq_of_toNat_eq
  simp
theorem bv32n {a : Nat} (h : a < 4294967296) : (BitVec.ofNat 32 a).toNat = a := by rw [BitVec.toNat_ofNat]; omega
theorem bxor_ok {a b : Nat} (ha : a < 4294967296) (hb : b < 4294967296) : bxor .u32 (a : Int) (b : Int) = ((a ^^^ b : Nat) : Int) ∧ a ^^^ b < 4294967296 := by
  have hlt : a ^^^ b < 2 ^ 32 := Nat.xor_lt_two_pow ha hb
  refine ⟨?_, hlt⟩
  show Go.IntKind.wrap .u32 (((BitVec.ofInt 32 (a : Int)) ^^^ (BitVec.ofInt 32 (b : Int)) : BitVec 32).toNat : Int) = _
  rw [bv32, bv32, BitVec.toNat_xor, bv32n ha, bv32n hb]
  exact wrapU hlt
theorem band_ok {a b : Nat} (ha : a < 4294967296) (hb : b < 4294967296) : band .u32 (a : Int) (b : Int) = ((a &&& b : Nat) : Int) := by
  have hlt : a &&& b < 2 ^ 32 := Nat.and_lt_two_pow _ hb
  show Go.IntKind.wrap .u32 (((BitVec.ofInt 32 (a : Int)) &&& (BitVec.ofInt 32 (b : Int)) : BitVec 32).toNat : Int) = _
  rw [bv32, bv32, BitVec.toNat_and, bv32n ha, bv32n hb]
  exact wrapU hlt
def pHas (p : T_api_Prefix) (a : Int) : Bool := pR p && decide (normA a p.Len.toNat = p.Addr)
theorem prR_len {p : T_api_Prefix} (h : pR p = true) : 0 ≤ p.Len ∧ p.Len ≤ 32 ∧ p.Addr % 2 ^ (32 - p.Len).toNat = 0 := by
  unfold pR at h
  simp only [Bool.and_eq_true, decide_eq_true_eq] at h
  exact ⟨h.1.1, h.1.2, h.2⟩
theorem pholds_ok (k : Nat) {p : T_api_Prefix} (hp : okP p) {a : Int} (a0 : 0 ≤ a) (a1 : a < 4294967296) : prefix_Holds.f k p a = some (pHas p a) := by
  rw [prefix_Holds.f, pright_ok k hp, obs]
  unfold pHas
  by_cases g : pR p = true
  · rw [if_pos g, g, Bool.true_and]
    obtain ⟨l0, l1, l2⟩ := prR_len g
    obtain ⟨h0, h1⟩ := hp
    obtain ⟨A, n⟩ := p
    simp only at *
    obtain ⟨m, rfl⟩ := Int.eq_ofNat_of_zero_le l0
    obtain ⟨A, rfl⟩ := Int.eq_ofNat_of_zero_le h0
    obtain ⟨b, rfl⟩ := Int.eq_ofNat_of_zero_le a0
    rw [mask_ok k m (by omega), obs]
    obtain ⟨e1, e2⟩ := bxor_ok (a := A) (b := b) (by omega) (by omega)
    have hpow : 1 ≤ 2 ^ (32 - m) := Nat.one_le_two_pow
    rw [e1]
    unfold maskOf
    rw [band_ok e2 (by omega)]
    congr 1
    have h3 := and_mask e2 (show m ≤ 32 by omega)
    rw [xor_div] at h3
    rw [show (32 - (m : Int)).toNat = 32 - m by omega] at l2
    have l2' : A % 2 ^ (32 - m) = 0 := by
      have hc : ((A : Int) % 2 ^ (32 - m)) = ((A % 2 ^ (32 - m) : Nat) : Int) := by rw [Int.natCast_emod]; simp
      rw [hc] at l2; omega
    unfold normA
    rw [Int.toNat_natCast, Int.toNat_natCast]
    rw [Bool.eq_iff_iff, beq_iff_eq, decide_eq_true_iff]
    have h4 : ((((A ^^^ b) &&& (4294967296 - 2 ^ (32 - m)) : Nat) : Int) = 0) ↔ ((A ^^^ b) &&& (4294967296 - 2 ^ (32 - m))) = 0 := by omega
    rw [h4, h3]
    have hd := Nat.div_add_mod A (2 ^ (32 - m))
    rw [l2', Nat.add_zero, Nat.mul_comm] at hd
    constructor
    · intro h; rw [← h, hd]
    · intro h
      have h' : b / 2 ^ (32 - m) * 2 ^ (32 - m) = A := by omega
      rw [← h', Nat.mul_div_cancel _ (by omega)]
  · rw [if_neg g]; simp [g]
theorem rpholds_ok {k : Nat} (hk : 65 ≤ k) {p : T_api_Prefix} (hp : okP p) {a : Int} (a0 : 0 ≤ a) (a1 : a < 4294967296) : r02_Holds.f k p a = some (pHas p a) := by
  rw [r02_Holds.f, rpright_ok hk hp, obs]
  unfold pHas
  by_cases g : pR p = true
  · rw [if_pos g, g, Bool.true_and]
    obtain ⟨l0, l1, _⟩ := prR_len g
    obtain ⟨m, hm, he, e⟩ := rnorm_ok (n := p.Len) a0 a1 hk
    rw [if_neg (by omega), if_neg (by omega)] at he
    rw [e, obs]
    simp only
    rw [he, beq_self_eq_true, Bool.and_true, show p.Len.toNat = m by omega]
    congr 1
  · rw [if_neg g]; simp [g]
def pCov (p q : T_api_Prefix) : Bool := pR q && (decide (q.Len ≥ p.Len) && pHas p q.Addr)
theorem pcov_ok (k : Nat) {p q : T_api_Prefix} (hp : okP p) (hq : okP q) : prefix_Covers.f k p q = some (pCov p q) := by
  rw [prefix_Covers.f, pright_ok k hq, obs]
  unfold pCov
  by_cases g : pR q = true
  · rw [if_pos g, g, Bool.true_and]
    by_cases g1 : q.Len ≥ p.Len
    · rw [if_pos g1, pholds_ok k hp hq.1 hq.2, decide_eq_true g1]; rfl
    · rw [if_neg g1, decide_eq_false g1]; rfl
  · rw [if_neg g]; simp [g]
theorem rpcov_ok {k : Nat} (hk : 65 ≤ k) {p q : T_api_Prefix} (hp : okP p) (hq : okP q) : r02_Covers.f k p q = some (pCov p q) := by
  rw [r02_Covers.f, rpright_ok hk hq, obs]
  unfold pCov
  by_cases g : pR q = true
  · rw [if_pos g, g, Bool.true_and]
    by_cases g1 : q.Len ≥ p.Len
    · rw [if_pos g1, rpholds_ok hk hp hq.1 hq.2, decide_eq_true g1]; rfl
    · rw [if_neg g1, decide_eq_false g1]; rfl
  · rw [if_neg g]; simp [g]
def rgHas (x : T_api_Range) (p : T_api_Prefix) : Bool := rgR x && (pCov x.Prefix p && (decide (p.Len ≥ x.Min) && decide (p.Len ≤ x.Max)))
theorem fin_ok (k : Nat) {x : T_api_Range} {p : T_api_Prefix} (hx : okP x.Prefix) (hp : okP p) : filter_In.f k x p = some (rgHas x p) := by
  rw [filter_In.f, fright_ok k hx, obs]
  unfold rgHas
  by_cases g : rgR x = true
  · rw [if_pos g, g, Bool.true_and, pcov_ok k hx hp, obs]
    by_cases g1 : pCov x.Prefix p = true
    · rw [if_pos g1, g1, Bool.true_and]
      by_cases g2 : p.Len ≥ x.Min
      · rw [if_pos g2, decide_eq_true g2, Bool.true_and]
      · rw [if_neg g2, decide_eq_false g2, Bool.false_and]
    · rw [if_neg g1]; simp [g1]
  · rw [if_neg g]; simp [g]
theorem rfin_ok {k : Nat} (hk : 65 ≤ k) {x : T_api_Range} {p : T_api_Prefix} (hx : okP x.Prefix) (hp : okP p) : r12_In.f k x p = some (rgHas x p) := by
  rw [r12_In.f, rfright_ok hk hx, obs]
  unfold rgHas
  by_cases g : rgR x = true
  · rw [if_pos g, g, Bool.true_and, rpcov_ok hk hx hp, obs]
    by_cases g1 : pCov x.Prefix p = true
    · rw [if_pos g1, g1, Bool.true_and]
      by_cases g2 : x.Min ≤ p.Len
      · rw [if_pos g2, decide_eq_true (show p.Len ≥ x.Min from g2), Bool.true_and]
      · rw [if_neg g2, decide_eq_false (show ¬ p.Len ≥ x.Min from g2), Bool.false_and]
    · rw [if_neg g1]; simp [g1]
  · rw [if_neg g]; simp [g]
theorem anyL {α β : Type} {l : List α} (hl : l.length ≤ 9223372036854775807) {F : Nat → Int → Option (Sum β Unit)} {P : Nat → α → Option Bool} {p : α → Bool} {m : Nat} {c : β}
    (hF : ∀ k i, F (k + 1) i = if i < (l.length : Int) then ((lat l i).bind fun y => ((P k y).bind fun b => if b = true then some (.inl c) else F k (i64 (i + 1)))) else some (.inr ()))
    (hp : ∀ y ∈ l, ∀ k, m ≤ k → P k y = some (p y)) (k : Nat) (hk : m + l.length < k) : F k 0 = some (if l.any p = true then .inl c else .inr ()) := by
  obtain ⟨o, e, h⟩ := findL (g := fun _ => c) hl hF hp k 0 (Nat.zero_le _) (by omega)
  rw [show ((0 : Nat) : Int) = 0 from rfl] at e
  rw [List.drop_zero] at h
  rw [e]
  rcases h with ⟨⟨_, rfl⟩, h⟩ | ⟨rfl, h⟩ <;> simp [h]
theorem fany_ok {k : Nat} {l : List T_api_Range} {p : T_api_Prefix} (hl : l.length ≤ 30) (hx : ∀ x ∈ l, okP x.Prefix) (hp : okP p) (hk : 200 ≤ k) : filter_Any.f k l p = some (l.any fun x => rgHas x p) := by
  have e : sC_42_w188.f k l p = _ := containsF (l := l) (by omega) (F := fun k i => sI_80_w188.l0 k l p i) (P := fun k y => filter_Any_1.f k y p) (p := fun x => rgHas x p) (m := 0) (k := k) (fun k i => by rw [sI_80_w188.l0])
    (fun y hy k _ => by rw [filter_Any_1.f, fin_ok k (hx y hy) hp]; rfl) (by omega)
  rw [filter_Any.f, e]; rfl
theorem rfany_ok {k : Nat} {l : List T_api_Range} {p : T_api_Prefix} (hl : l.length ≤ 30) (hx : ∀ x ∈ l, okP x.Prefix) (hp : okP p) (hk : 200 ≤ k) : r12_Any.f k l p = some (l.any fun x => rgHas x p) := by
  have e := anyL (l := l) (by omega) (F := fun k i => r12_Any.l0 k l p i) (P := fun k y => r12_In.f k y p) (p := fun x => rgHas x p) (m := 65) (c := true) (fun k i => by rw [r12_Any.l0])
    (fun y hy k hk => rfin_ok hk (hx y hy) hp) k (by omega)
  rw [r12_Any.f, e, obs]
  cases l.any fun x => rgHas x p <;> rfl
theorem contains_ok {k : Nat} {l : List Int} (x : Int) (hl : l.length ≤ 9223372036854775807) (hk : l.length < k) : slices_Contains_96.f k l x = some (l.any fun y => decide (x = y)) := by
  have e : slices_Contains_96.f k l x = _ := containsF (l := l) hl (F := fun k i => slices_Index_123.l0 k l x i) (P := fun _ y => some (decide (x = y))) (p := fun y => decide (x = y)) (m := 0) (k := k)
    (fun k i => by
      show slices_Index_123.l0 (k + 1) l x i = _
      rw [slices_Index_123.l0]
      simp only [obs, decide_eq_true_eq]) (fun y hy k _ => rfl) (by omega)
  exact e
theorem rhas_ok {k : Nat} {l : List Int} (x : Int) (hl : l.length ≤ 9223372036854775807) (hk : l.length < k) : r12_Has.f k l x = some (l.any fun y => decide (x = y)) := by
  have e := anyL (l := l) hl (F := fun k i => r12_Has.l0 k l x i) (P := fun _ y => some (decide (x = y))) (p := fun y => decide (x = y)) (m := 0) (c := true) (fun k i => by
      show r12_Has.l0 (k + 1) l x i = _
      rw [r12_Has.l0]
      simp only [obs, decide_eq_true_eq, eq_comm (a := x)]) (fun y hy k _ => rfl) k (by omega)
  rw [r12_Has.f, e, obs]
  cases l.any fun y => decide (x = y) <;> rfl
def hasAll (have_ want : List Int) : Bool := want.all fun c => have_.any fun y => decide (c = y)
theorem fall_ok {k : Nat} {have_ want : List Int} (h1 : have_.length ≤ 1000) (h2 : want.length ≤ 1000) (hk : 3000 ≤ k) : filter_All.f k have_ want = some (hasAll have_ want) := by
  have e : sC_94_w195.f k want have_ = _ := containsF (l := want) (by omega) (F := fun k i => sI_122_w195.l0 k want have_ i) (P := fun k y => filter_All_1.f k y have_) (p := fun c => !(have_.any fun y => decide (c = y))) (m := 1001) (k := k) (fun k i => by rw [sI_122_w195.l0])
    (fun y hy k hk => by rw [filter_All_1.f, contains_ok y (by omega) (by omega)]; rfl) (by omega)
  rw [filter_All.f, e, obs]
  unfold hasAll
  rw [List.not_any_eq_all_not]
  simp
theorem rall_ok {k : Nat} {have_ want : List Int} (h1 : have_.length ≤ 1000) (h2 : want.length ≤ 1000) (hk : 3000 ≤ k) : r12_All.f k have_ want = some (hasAll have_ want) := by
  have e := allL (l := want) (by omega) (F := fun k i => r12_All.l0 k have_ want i) (P := fun k y => r12_Has.f k have_ y) (p := fun c => have_.any fun y => decide (c = y)) (m := 1001) (c := false) (fun k i => by rw [r12_All.l0])
    (fun y hy k hk => rhas_ok y (by omega) (by omega)) k 0 (Nat.zero_le _) (by omega)
  rw [show ((0 : Nat) : Int) = 0 from rfl, List.drop_zero] at e
  rw [r12_All.f, e, obs]
  unfold hasAll
  cases want.all fun c => have_.any fun y => decide (c = y) <;> rfl
def flat (l : List T_api_Segment) : List Int := l.flatMap (·.AS)
def smn (l : List T_api_Segment) : Int := (l.map fun s => mn (s.AS.length : Int) 300).sum
theorem smn_cons (s : T_api_Segment) (l : List T_api_Segment) : smn (s :: l) = mn (s.AS.length : Int) 300 + smn l := by simp [smn]
theorem flat_cons (s : T_api_Segment) (l : List T_api_Segment) : flat (s :: l) = s.AS ++ flat l := by simp [flat]
theorem smn_nn (l : List T_api_Segment) : 0 ≤ smn l := by
  induction l with
  | nil => exact Int.le_refl _
  | cons s l ih =>
    have : 0 ≤ mn (s.AS.length : Int) 300 := mn_nn (by omega) (by omega)
    simp only [smn, List.map_cons, List.sum_cons] at *
    omega
theorem few_flat (M : Nat) : ∀ l : List T_api_Segment, (∀ s ∈ l, s.AS.length ≤ M) → smn l ≤ 300 → ((flat l).length : Int) = smn l ∨ (smn l = 300 ∧ (flat l).length ≤ M)
  | [], _, _ => .inl rfl
  | s :: l, h, h3 => by
    have hs := h s (List.mem_cons_self ..)
    have hn := smn_nn l
    have hm := mn_le (s.AS.length : Int) 300
    have h0 : 0 ≤ mn (s.AS.length : Int) 300 := mn_nn (by omega) (by omega)
    have e : smn (s :: l) = mn (s.AS.length : Int) 300 + smn l := by simp [smn]
    have ef : (flat (s :: l)).length = s.AS.length + (flat l).length := by simp [flat]
    rw [e] at h3 ⊢
    rw [ef]
    have ih := few_flat M l (fun x hx => h x (List.mem_cons_of_mem _ hx)) (by omega)
    by_cases hl : (s.AS.length : Int) ≤ 300
    · have em : mn (s.AS.length : Int) 300 = s.AS.length := by unfold mn; split <;> omega
      rw [em] at h3 ⊢
      rcases ih with ih | ⟨i1, i2⟩
      · left; omega
      · right; omega
    · have em : mn (s.AS.length : Int) 300 = 300 := by unfold mn; split <;> omega
      rw [em] at h3 ⊢
      rcases ih with ih | ⟨i1, i2⟩
      · right; omega
      · omega
theorem lfew3 (l : List T_api_Segment) : ∃ b : Bool, (∀ k, 100 ≤ k → w03_Few.f k l = some b) ∧ (b = true → l.length ≤ 12 ∧ smn l ≤ 300) := by
  by_cases h : (l.length : Int) > 12
  · exact ⟨false, fun k _ => by rw [w03_Few.f, if_pos h], fun h => by cases h⟩
  · have loop : ∀ (n i : Nat) (s : Int), l.length - i = n → i ≤ l.length → 0 ≤ s → s ≤ 300 → ∃ o, (∀ k, 20 + n ≤ k → w03_Few.l0 k l s (i : Int) = some o) ∧ (o = .inl false ∨ (o = .inr () ∧ s + smn (l.drop i) ≤ 300)) := by
      intro n
      induction n with
      | zero =>
        intro i s hn hi h0 h1
        refine ⟨.inr (), fun k hk => ?_, .inr ⟨rfl, ?_⟩⟩
        · cases k with
          | zero => omega
          | succ k => rw [w03_Few.l0, if_neg (by omega)]
        · rw [List.drop_eq_nil_of_le (by omega)]; simpa [smn] using h1
      | succ n ih =>
        intro i s hn hi h0 h1
        have hlt : i < l.length := by omega
        have hx : l[i]? = some l[i] := List.getElem?_eq_getElem hlt
        have c1 := mn_le (l[i].AS.length : Int) 300
        have c3 : 0 ≤ mn (l[i].AS.length : Int) 300 := mn_nn (by omega) (by omega)
        have unf : ∀ k, w03_Few.l0 (k + 1) l s (i : Int) = if s + mn (l[i].AS.length : Int) 300 > 300 then some (.inl false) else w03_Few.l0 k l (s + mn (l[i].AS.length : Int) 300) ((i + 1 : Nat) : Int) := by
          intro k
          rw [w03_Few.l0, if_pos (by omega), lat_nat, hx]
          simp only [obs]
          rw [i64_id (n := s + mn (l[i].AS.length : Int) 300) (by omega) (by omega), i64_up hlt (by omega)]
        by_cases g : s + mn (l[i].AS.length : Int) 300 > 300
        · refine ⟨.inl false, fun k hk => ?_, .inl rfl⟩
          cases k with
          | zero => omega
          | succ k => rw [unf, if_pos g]
        · obtain ⟨o, e, ho⟩ := ih (i + 1) _ (by omega) (by omega) (show 0 ≤ s + mn (l[i].AS.length : Int) 300 by omega) (by omega)
          refine ⟨o, fun k hk => ?_, ho.imp id fun ⟨a, b⟩ => ⟨a, ?_⟩⟩
          · cases k with
            | zero => omega
            | succ k => rw [unf, if_neg g]; exact e k (by omega)
          · rw [List.drop_eq_getElem_cons hlt, smn_cons]
            omega
    obtain ⟨o, e, ho⟩ := loop _ 0 0 rfl (Nat.zero_le _) (by omega) (by omega)
    rw [List.drop_zero] at ho
    have e' : ∀ k, 100 ≤ k → w03_Few.f k l = ((some o).bind fun o => match o with | .inl r => some r | .inr _ => some true) := fun k hk => by
      rw [w03_Few.f, if_neg h, ← e k (by omega)]
      rfl
    rcases ho with rfl | ⟨rfl, ho⟩
    · exact ⟨false, e', fun h => by cases h⟩
    · exact ⟨true, e', fun _ => ⟨by omega, by omega⟩⟩
theorem lfew4 (a : T_api_Attrs) : ∃ b : Bool, (∀ k, 200 ≤ k → w04_Few.f k a = some b) ∧ (b = true → a.Path.length ≤ 12 ∧ smn a.Path ≤ 300 ∧ a.Comms.length ≤ 60 ∧ a.Raws.length ≤ 12 ∧ ∀ x ∈ a.Raws, x.Data.length ≤ 400) := by
  obtain ⟨b, e, hb⟩ := lfew3 a.Path
  cases b with
  | false => exact ⟨false, fun k hk => by rw [w04_Few.f, e k (by omega)]; rfl, fun h => by cases h⟩
  | true =>
    obtain ⟨h1, h2⟩ := hb rfl
    by_cases h3 : (a.Comms.length : Int) > 60
    · exact ⟨false, fun k hk => by rw [w04_Few.f, e k (by omega), obs, if_pos rfl, if_pos h3], fun h => by cases h⟩
    · by_cases h4 : (a.Raws.length : Int) > 12
      · exact ⟨false, fun k hk => by rw [w04_Few.f, e k (by omega), obs, if_pos rfl, if_neg h3, if_pos h4], fun h => by cases h⟩
      · have loop : ∀ k, 200 ≤ k → w04_Few.l0 k a 0 = some (if a.Raws.any (fun x => decide ((x.Data.length : Int) > 400)) = true then .inl false else .inr ()) := fun k hk =>
          anyL (l := a.Raws) (by omega) (F := fun k i => w04_Few.l0 k a i) (P := fun _ y => some (decide ((y.Data.length : Int) > 400))) (p := fun x => decide ((x.Data.length : Int) > 400)) (m := 0) (c := false) (fun k i => by
            show w04_Few.l0 (k + 1) a i = _
            rw [w04_Few.l0]
            simp only [obs, decide_eq_true_eq]) (fun y hy k _ => rfl) k (by omega)
        refine ⟨!(a.Raws.any fun x => decide ((x.Data.length : Int) > 400)), fun k hk => ?_, fun h => ⟨h1, h2, by omega, by omega, fun x hx => ?_⟩⟩
        · rw [w04_Few.f, e k (by omega), obs, if_pos rfl, if_neg h3, if_neg h4, loop k hk, obs]
          cases a.Raws.any fun x => decide ((x.Data.length : Int) > 400) <;> rfl
        · rw [Bool.not_eq_true', List.any_eq_false] at h
          have := h x hx
          simp at this
          omega
theorem rflat_l1 {l : List T_api_Segment} {i : Nat} {s : T_api_Segment} (hs : l[i]? = some s) (hsl : s.AS.length ≤ 9223372036854775807) : ∀ (k j : Nat) (acc : List Int), j ≤ s.AS.length → (acc.length + (s.AS.length - j)) * 4 ≤ 140737488351232 → s.AS.length - j < k → r03_Flat.l1 k l (i : Int) acc (j : Int) = some (acc ++ s.AS.drop j)
  | 0, j, acc, _, _, h => by omega
  | k + 1, j, acc, h1, h2, h3 => by
    rw [r03_Flat.l1, lat_nat, hs, obs]
    by_cases hj : j < s.AS.length
    · rw [if_pos (by omega), obs, lat_nat, List.getElem?_eq_getElem hj, obs, app_small (by simp; omega) (by decide), obs, i64_up hj hsl]
      rw [rflat_l1 hs hsl k (j + 1) _ (by omega) (by simp; omega) (by omega), List.drop_eq_getElem_cons hj]
      simp
    · rw [if_neg (by omega), List.drop_eq_nil_of_le (by omega), List.append_nil]
theorem rflat_l0 {l : List T_api_Segment} (hl : l.length ≤ 12) : ∀ (k i : Nat) (acc : List Int), i ≤ l.length → (acc.length + (flat (l.drop i)).length) * 4 ≤ 140737488351232 → (flat (l.drop i)).length + (l.length - i) + 1 < k → r03_Flat.l0 k l acc (i : Int) = some (acc ++ flat (l.drop i))
  | 0, i, acc, _, _, h => by omega
  | k + 1, i, acc, h1, h2, h3 => by
    rw [r03_Flat.l0]
    by_cases hi : i < l.length
    · have ed : l.drop i = l[i] :: l.drop (i + 1) := List.drop_eq_getElem_cons hi
      have ef : flat (l.drop i) = l[i].AS ++ flat (l.drop (i + 1)) := by rw [ed, flat_cons]
      rw [ef, List.length_append] at h2 h3
      have e1 := rflat_l1 (l := l) (i := i) (List.getElem?_eq_getElem hi) (by omega) k 0 acc (Nat.zero_le _) (by omega) (by omega)
      rw [show ((0 : Nat) : Int) = 0 from rfl, List.drop_zero] at e1
      rw [if_pos (by omega), e1, obs, i64_up hi (by omega), rflat_l0 hl k (i + 1) _ (by omega) (by rw [List.length_append]; omega) (by omega), ef, List.append_assoc]
    · rw [if_neg (by omega), List.drop_eq_nil_of_le (by omega)]
      simp [flat]
theorem rflat_ok {k : Nat} {l : List T_api_Segment} (hl : l.length ≤ 12) (h : (flat l).length * 4 ≤ 140737488351232) (hk : (flat l).length + 20 ≤ k) : r03_Flat.f k l = some (flat l) := by
  have e := rflat_l0 hl k 0 [] (Nat.zero_le _) (by simpa using h) (by simp; omega)
  rw [show ((0 : Nat) : Int) = 0 from rfl, List.drop_zero] at e
  rw [r03_Flat.f, e]; rfl
theorem aflat_l0 {l : List T_api_Segment} (hl : l.length ≤ 12) : ∀ (k i : Nat) (acc : List Int), i ≤ l.length → (acc.length + (flat (l.drop i)).length) * 4 ≤ 140737488351232 → (l.length - i) < k → aspath_gathered_92_w193.l0 k l acc (i : Int) = some (acc ++ flat (l.drop i))
  | 0, i, acc, _, _, h => by omega
  | k + 1, i, acc, h1, h2, h3 => by
    rw [aspath_gathered_92_w193.l0]
    by_cases hi : i < l.length
    · have ed : l.drop i = l[i] :: l.drop (i + 1) := List.drop_eq_getElem_cons hi
      have ef : flat (l.drop i) = l[i].AS ++ flat (l.drop (i + 1)) := by rw [ed, flat_cons]
      rw [ef, List.length_append] at h2
      rw [if_pos (by omega), lat_nat, List.getElem?_eq_getElem hi, obs, aspath_Flat_1.f, obs, app_small (by omega) (by decide), obs, i64_up hi (by omega), aflat_l0 hl k (i + 1) _ (by omega) (by rw [List.length_append]; omega) (by omega), ef, List.append_assoc]
    · rw [if_neg (by omega), List.drop_eq_nil_of_le (by omega)]
      simp [flat]
theorem aflat_ok {k : Nat} {l : List T_api_Segment} (hl : l.length ≤ 12) (h : (flat l).length * 4 ≤ 140737488351232) (hk : 20 ≤ k) : aspath_Flat.f k l = some (flat l) := by
  have e := aflat_l0 hl k 0 [] (Nat.zero_le _) (by simpa using h) (by simp; omega)
  rw [show ((0 : Nat) : Int) = 0 from rfl, List.drop_zero] at e
  rw [aspath_Flat.f, aspath_gathered_92_w193.f, e]; rfl
theorem count_eq (l : List T_api_Segment) : ∀ (k : Nat) (n i : Int), r03_Count.l0 k l n i = aspath_Count.l0 k l n i
  | 0, _, _ => rfl
  | k + 1, n, i => by
    rw [r03_Count.l0, aspath_Count.l0]
    simp only [count_eq l k]
    cases lat l i with
    | none => rfl
    | some y => rfl
theorem count_some {l : List T_api_Segment} (hl : l.length ≤ 12) : ∀ (m i : Nat) (n : Int), l.length - i = m → i ≤ l.length → ∃ v, ∀ k, m < k → aspath_Count.l0 k l n (i : Int) = some v
  | 0, i, n, hm, hi => ⟨n, fun k hk => by
    cases k with
    | zero => omega
    | succ k => rw [aspath_Count.l0, if_neg (by omega)]⟩
  | m + 1, i, n, hm, hi => by
    have hlt : i < l.length := by omega
    have unf : ∀ k, aspath_Count.l0 (k + 1) l n (i : Int) = if l[i].Kind = 1 then aspath_Count.l0 k l (i64 (n + 1)) ((i + 1 : Nat) : Int) else aspath_Count.l0 k l (i64 (n + (l[i].AS.length : Int))) ((i + 1 : Nat) : Int) := by
      intro k
      rw [aspath_Count.l0, if_pos (by omega), lat_nat, List.getElem?_eq_getElem hlt, obs, i64_up hlt (by omega)]
    by_cases g : l[i].Kind = 1
    · obtain ⟨v, hv⟩ := count_some hl m (i + 1) (i64 (n + 1)) (by omega) (by omega)
      refine ⟨v, fun k hk => ?_⟩
      cases k with
      | zero => omega
      | succ k => rw [unf, if_pos g]; exact hv k (by omega)
    · obtain ⟨v, hv⟩ := count_some hl m (i + 1) (i64 (n + (l[i].AS.length : Int))) (by omega) (by omega)
      refine ⟨v, fun k hk => ?_⟩
      cases k with
      | zero => omega
      | succ k => rw [unf, if_neg g]; exact hv k (by omega)
theorem count_ok {l : List T_api_Segment} (hl : l.length ≤ 12) : ∃ v, ∀ k, 20 ≤ k → aspath_Count.f k l = some v ∧ r03_Count.f k l = some v := by
  obtain ⟨v, hv⟩ := count_some hl _ 0 0 rfl (Nat.zero_le _)
  rw [show ((0 : Nat) : Int) = 0 from rfl] at hv
  exact ⟨v, fun k hk => ⟨by rw [aspath_Count.f, hv k (by omega)]; rfl, by rw [r03_Count.f, count_eq, hv k (by omega)]; rfl⟩⟩
end Go.Proofs.YtafnenafbognkaaGreatDoor
namespace Go.Proofs.YtafnenafbognkaaGreatDoor
open Sp
set_option maxRecDepth 100000
set_option maxHeartbeats 4000000
structure okA (a : T_api_Attrs) : Prop where
  path : a.Path.length ≤ 12
  comms : a.Comms.length ≤ 60
  flatL : (flat a.Path).length ≤ 70
  nums : ∀ x ∈ flat a.Path, 0 ≤ x ∧ x < 4294967296
theorem holds_ok (c : T_api_Cond) (p : T_api_Prefix) (a : T_api_Attrs) (hc : okC c) (hcl : c.Comms.length ≤ 60) (hp : okP p) (ha : okA a) : ∃ b : Bool, ∀ k, 6000000 ≤ k →
    (∀ n : Bool, policy_Holds.f k ⟨c.Kind, n, c.Num, c.Addr, c.Text, c.Range, c.Comms⟩ p a = some (!(b == n))) ∧ r14_Holds.f k c p a = some (!(b == c.Not)) := by
  obtain ⟨⟨_, _, _, _, _, hr, _⟩, ht, hrl⟩ := hc
  obtain ⟨pc, M, hM⟩ := patOf c.Text ht
  have hrg : ∀ x ∈ c.Range, okP x.Prefix := fun x hx => okP_of (hr.2 x hx).1
  have hf : (flat a.Path).length * 4 ≤ 140737488351232 := by have := ha.flatL; omega
  have hfl := ha.flatL
  have hpl := ha.path
  have hcm := ha.comms
  have hk : c.Kind = 0 ∨ c.Kind = 1 ∨ c.Kind = 2 ∨ c.Kind = 3 ∨ c.Kind = 4 ∨ c.Kind = 5 ∨ c.Kind = 6 ∨ (¬ c.Kind = 0 ∧ ¬ c.Kind = 1 ∧ ¬ c.Kind = 2 ∧ ¬ c.Kind = 3 ∧ ¬ c.Kind = 4 ∧ ¬ c.Kind = 5 ∧ ¬ c.Kind = 6) := by omega
  rcases hk with h | h | h | h | h | h | h | ⟨n0, n1, n2, n3, n4, n5, n6⟩
  · refine ⟨true, fun k hk => ⟨fun n => ?_, ?_⟩⟩
    · rw [policy_Holds.f, if_pos h]
    · rw [r14_Holds.f, if_pos h]
  · refine ⟨c.Range.any fun x => rgHas x p, fun k hk => ⟨fun n => ?_, ?_⟩⟩
    · rw [policy_Holds.f]
      simp only [h]
      rw [if_neg (by decide), if_pos trivial, fany_ok hrl hrg hp (by omega)]; rfl
    · rw [r14_Holds.f, h, if_neg (by decide), if_pos rfl, rfany_ok hrl hrg hp (by omega)]; rfl
  · refine ⟨M (flat a.Path), fun k hk => ?_⟩
    obtain ⟨r, q, e1, e2, e3, e4, e5⟩ := hM.run k (by omega)
    obtain ⟨e6, e7⟩ := e5 (flat a.Path) (by omega) ha.nums
    refine ⟨fun n => ?_, ?_⟩
    · rw [policy_Holds.f]
      simp only [h]
      rw [if_neg (by decide), if_neg (by decide), if_pos trivial, e1, obs, aflat_ok hpl hf (by omega), obs, e6]; rfl
    · rw [r14_Holds.f, h, if_neg (by decide), if_neg (by decide), if_pos rfl, e2, obs, e4]
      by_cases g : pc = 0
      · rw [if_pos g, rflat_ok hpl hf (by omega), obs, e7 g]; rfl
      · rw [if_neg g, hM.none g]
  · refine ⟨hasAll a.Comms c.Comms, fun k hk => ⟨fun n => ?_, ?_⟩⟩
    · rw [policy_Holds.f]
      simp only [h]
      rw [if_neg (by decide), if_neg (by decide), if_neg (by decide), if_pos trivial, fall_ok (by omega) (by omega) (by omega)]; rfl
    · rw [r14_Holds.f, h, if_neg (by decide), if_neg (by decide), if_neg (by decide), if_pos rfl, rall_ok (by omega) (by omega) (by omega)]; rfl
  · obtain ⟨v, hv⟩ := count_ok hpl
    refine ⟨decide (v > c.Num), fun k hk => ⟨fun n => ?_, ?_⟩⟩
    · rw [policy_Holds.f]
      simp only [h]
      rw [if_neg (by decide), if_neg (by decide), if_neg (by decide), if_neg (by decide), if_pos trivial, (hv k (by omega)).1]; rfl
    · rw [r14_Holds.f, h, if_neg (by decide), if_neg (by decide), if_neg (by decide), if_neg (by decide), if_pos rfl, (hv k (by omega)).2]; rfl
  · refine ⟨a.Next == c.Addr, fun k hk => ⟨fun n => ?_, ?_⟩⟩
    · rw [policy_Holds.f]
      simp only [h]
      rfl
    · rw [r14_Holds.f, h]; rfl
  · refine ⟨a.Origin == c.Num, fun k hk => ⟨fun n => ?_, ?_⟩⟩
    · rw [policy_Holds.f]
      simp only [h]
      rfl
    · rw [r14_Holds.f, h]; rfl
  · refine ⟨false, fun k hk => ⟨fun n => ?_, ?_⟩⟩
    · rw [policy_Holds.f]
      simp only [if_neg n0, if_neg n1, if_neg n2, if_neg n3, if_neg n4, if_neg n5, if_neg n6]
    · rw [r14_Holds.f]
      simp only [if_neg n0, if_neg n1, if_neg n2, if_neg n3, if_neg n4, if_neg n5, if_neg n6]
theorem awakeK : w14_awake.f 1000000000000000000 = some true := by kernel_rfl
theorem flat_nums {l : List T_api_Segment} (h : ∀ s ∈ l, ok_api_Segment s) : ∀ x ∈ flat l, 0 ≤ x ∧ x < 4294967296 := fun x hx => by
  unfold flat at hx
  obtain ⟨s, h1, h2⟩ := List.mem_flatMap.1 hx
  exact wf32 ((h s h1).2.2 x h2)
theorem flat_room {a : T_api_Attrs} (h12 : smn a.Path ≤ 300) (hw : wk_api_Attrs a) : (flat a.Path).length * 4 ≤ 140737488351232 := by
  obtain ⟨_, ⟨_, hs⟩, _⟩ := hw
  have := few_flat 35184372087808 a.Path (fun s hx => by
    obtain ⟨_, h2, _⟩ := hs s hx
    have e : Go.reachBytes = 140737488351232 := rfl
    rw [e] at h2
    omega) h12
  rcases this with h | ⟨_, h⟩
  · omega
  · have := few_flat 35184372087808
    obtain h' : (flat a.Path).length ≤ 35184372087808 := h
    -- the one long segment is light by itself
    have key : ∀ l : List T_api_Segment, (∀ s ∈ l, s.AS.length * 4 ≤ 140737488351232) → smn l ≤ 300 → (flat l).length * 4 ≤ 140737488351232 := by
      intro l hl hm
      have := few_flat 35184372087808 l (fun s hx => by have := hl s hx; omega) hm
      have k2 := few_flat (140737488351232 / 4) l (fun s hx => by have := hl s hx; omega) hm
      rcases k2 with h | ⟨_, h⟩ <;> omega
    exact key a.Path (fun s hx => by
      obtain ⟨_, h2, _⟩ := hs s hx
      exact h2) h12
theorem okA_of {a : T_api_Attrs} (o : ok_api_Attrs a) (h1 : a.Path.length ≤ 12) (h3 : a.Comms.length ≤ 60) (h70 : (flat a.Path).length ≤ 70) : okA a :=
  ⟨h1, h3, h70, flat_nums o.2.1.2⟩
theorem fewC_comms {c : T_api_Cond} (hf : fewC c = true) : c.Comms.length ≤ 60 := by
  unfold fewC at hf
  simp only [Bool.and_eq_true, decide_eq_true_eq] at hf
  omega
theorem holds_law (x0 : T_api_Cond) (x1 : T_api_Prefix) (x2 : T_api_Attrs) (o0 : ok_api_Cond x0) (o1 : ok_api_Prefix x1) (o2 : ok_api_Attrs x2) (_ : wk_api_Cond x0) (_ : wk_api_Prefix x1) (k2 : wk_api_Attrs x2) : ∃ k, w14_PolicyHolds.f k x0 x1 x2 = some true := by
  refine ⟨1000000000000000000, ?_⟩
  rw [w14_PolicyHolds.f]
  rw [fewC_ok]
  simp only [awakeK, obs]
  by_cases hc : fewC x0 = true
  · rw [if_pos hc]
    obtain ⟨b, e, hb⟩ := lfew4 x2
    rw [e _ (by omega), obs]
    by_cases hf : b = true
    · rw [if_pos hf]
      obtain ⟨h1, h2, h3, h4, h5⟩ := hb hf
      have room := flat_room h2 k2
      rw [rflat_ok h1 room (by omega), obs]
      by_cases h70 : ((flat x2.Path).length : Int) > 70
      · rw [if_pos h70]
      · rw [if_neg h70]
        obtain ⟨r, hr⟩ := holds_ok x0 x1 x2 (okC_of o0 hc) (fewC_comms hc) (okP_of o1) (okA_of o2 h1 h3 (by omega))
        obtain ⟨r1, r2⟩ := hr 1000000000000000000 (by decide)
        have r3 := r1 x0.Not
        rw [show (⟨x0.Kind, x0.Not, x0.Num, x0.Addr, x0.Text, x0.Range, x0.Comms⟩ : T_api_Cond) = x0 from rfl] at r3
        rw [r3, r2, obs, obs, if_pos rfl, r1 (!x0.Not), obs, obs, if_pos]
        cases r <;> cases x0.Not <;> rfl
    · rw [if_neg hf]
  · rw [if_neg hc]
end Go.Proofs.YtafnenafbognkaaGreatDoor
