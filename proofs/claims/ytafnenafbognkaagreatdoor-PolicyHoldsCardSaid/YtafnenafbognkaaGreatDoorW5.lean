/-
  Parts of the proof, merged: Eng13, Eng14.
-/
import Derived.Laws.BytesString
import Derived.Test.YtafnenafbognkaaGreatDoorW4
namespace Sp
open Go Go.RowKit
section
variable {P : Program} {σ : Env} {w : World} {I : IMem} {L : List It} {K : Env → World → Prop} {α : Type} {r : RTy α}
variable {d : Option Nat} {ty : TypeId} {pos : String} {af : Array Edge} {g : Option (Nat × Bool)}
theorem flatI (k : IntKind) (I : IMem) : ∀ l : List Int, Flat (tInt' k) I (l.map (Value.int k)) l
  | [] => rfl
  | x :: l => ⟨[.int k x], _, rfl, rfl, flatI k I l⟩
theorem flatI' {k : IntKind} {I : IMem} : ∀ {l : List Int} {cs : List Value}, Flat (tInt' k) I cs l → cs = l.map (Value.int k)
  | [], _, h => h
  | x :: l, _, ⟨c, cs', e, h1, h2⟩ => by
    obtain rfl : c = [.int k x] := h1
    rw [e, flatI' h2]; rfl
theorem Own.toAvAt (S : Own I w L) (i : Nat) {b : Nat} {T : TypeId} {cs : List Value} (hi : L[i]? = some (.bk b T cs)) (len sz : Nat) (hl : cs.length = len * sz) (hm : Nat.ble len 4096 = true) :
    Own I w (L.set i (.av (.slice (some ⟨b, 0, none⟩) len len) T sz cs)) :=
  ((S.pick i hi).toAv len sz hl (by have := Nat.le_of_ble_eq_true hm; unfold maxLen; omega)).perm (perm_set L i _ _ hi)
theorem aa_len (S : Own I w L) (q : Nat) {b n : Nat} {T sz : Nat} {cs : List Value} {l : List α} (hq : L[q]? = some (.av (.slice (some ⟨b, 0, none⟩) n n) T sz cs)) (hf : Flat r I cs l) (hr : r.sz = sz) (hs : Nat.blt 0 sz = true) : l.length = n := by
  obtain ⟨_, _, _, _, _, _, h7, _⟩ : avOk I w (.slice (some ⟨b, 0, none⟩) n n) T sz cs := S.items _ (List.mem_of_getElem? hq)
  have h := hf.length
  rw [hr, h7] at h
  have hs' : 0 < sz := Nat.le_of_ble_eq_true hs
  exact (Nat.eq_of_mul_eq_mul_right hs' h).symm
theorem aa_at (S : Own I w L) (q : Nat) {b n : Nat} {T sz : Nat} {cs : List Value} {l : List α} {j : Int} {y : α} (hq : L[q]? = some (.av (.slice (some ⟨b, 0, none⟩) n n) T sz cs)) (hf : Flat r I cs l) (hr : r.sz = sz) (hs : Nat.blt 0 sz = true) (hy : lat l j = some y) :
    0 ≤ j ∧ j < (n : Int) ∧ ∃ c', r.rep I c' y ∧ ∀ p u, c'[p]? = some u → cs[j.toNat * sz + p]? = some u := by
  obtain ⟨h0, h1, h2⟩ := lat_ok hy
  have hn := aa_len S q hq hf hr hs
  obtain ⟨c', h4, h5⟩ := hf.at h2
  rw [hr] at h5
  exact ⟨h0, by rw [← hn]; exact h1, c', h4, h5⟩
theorem x_iaA0 {t n e sz : Nat} (ht : tAr P t = some (n, e, sz)) {x i : Operand} {b : Nat} {k : IntKind} {j : Int} (hx : ev σ x = .pointer (some ⟨b, 0, none⟩)) (hi : ev σ i = .int k j)
    (h0 : 0 ≤ j) (h1 : j < n) : (execOp (ev σ) ⟨d, .indexAddr t x i, ty, pos, af, g⟩).run P w = .ok (.value (.pointer (some ⟨b, j.toNat * sz, none⟩))) w := by
  have h := x_iaA (P := P) (w := w) (d := d) (ty := ty) (pos := pos) (af := af) (g := g) ht hx hi h0 h1
  rwa [Nat.zero_add] at h
theorem o_cutAL {t n e sz : Nat} (ht : tAr P t = some (n, e, sz)) (hr : r.sz = sz) {x y : Operand} {b : Nat} {l m : List α} {k : IntKind} {j : Int} (h : SlR r I (.slice (some ⟨b, 0, none⟩) n n) l) (hx : ev σ x = .pointer (some ⟨b, 0, none⟩)) (hy : ev σ y = .int k j) (hc : cutL l j = some m)
    (h' : ∀ v, SlR r I v m → K (σ.put d v) w) : OW P ⟨d, .slice t x (some y) none none, ty, pos, af, g⟩ K σ w := by
  unfold cutL at hc
  split at hc
  · rename_i hj
    obtain ⟨q, rfl, h2, h3⟩ := toNat_of hj.1 hj.2
    rw [h3] at hc
    obtain rfl := Option.some.inj hc
    obtain ⟨_, hn, _⟩ := h.cells
    obtain ⟨hu, i', he, hs⟩ := tAr_spec ht
    have h4 := h.drop rfl q h2
    subst hr
    refine OW.val (v := .slice (if n = q then some ⟨b, 0, none⟩ else (some (⟨b, 0, none⟩ : Addr)).map (·.add (q * r.sz))) (n - q) (n - q)) ?_ (h' _ h4)
    have hq : q ≤ n := by omega
    have hq' : (q : Int) ≤ (n : Int) := by omega
    by_cases e : n = q
    · simp [execOp, Instr.sliceAt, und_run hu, hx, Instr.sureAddr, Instr.sliceBounds, hy, Instr.sliceBound, asIntOf, Go.sizeOf, typeInfo, he, hs, e]
    · simp [execOp, Instr.sliceAt, und_run hu, hx, Instr.sureAddr, Instr.sliceBounds, hy, Instr.sliceBound, asIntOf, Go.sizeOf, typeInfo, he, hs, e, hq]
  · cases hc
def ofB (l : List Int) : ByteArray := l.foldl (fun r n => r.push (UInt8.ofNat n.toNat)) ByteArray.empty
def tBs (P : Program) (s t : TypeId) : Bool := match P.underlying s, P.underlying t with
  | some (.slice e), some .string => (match P.underlying e with | some (.int .u8) => true | _ => false)
  | _, _ => false
theorem tBs_spec {s t : TypeId} (h : tBs P s t = true) : ∃ e, P.underlying s = some (.slice e) ∧ P.underlying e = some (.int .u8) ∧ P.underlying t = some .string := by
  unfold tBs at h
  split at h
  · rename_i e h1 h2
    split at h
    · rename_i h3; exact ⟨e, h1, h3, h2⟩
    · cases h
  · cases h
theorem x_bts {s t : TypeId} (ht : tBs P s t = true) (hc : ∀ b o v, I.cell b o = some v → w.cell? ⟨b, o, none⟩ = some v) {x : Operand} {l : List Int} (h : SlR (tInt' .u8) I (ev σ x) l) :
    (execOp (ev σ) ⟨d, .convert s t x, ty, pos, af, g⟩).run P w = .ok (.value (.string (ofB l))) w := by
  obtain ⟨e, h1, h2, h3⟩ := tBs_spec ht
  obtain ⟨A, c, cs, hv, k2, k3, k4, k5⟩ := h
  obtain rfl := flatI' k4
  cases A with
  | none =>
    rcases k5 with k5 | ⟨a, k5, _⟩
    · obtain rfl : l = [] := by simpa using k5
      simp only [execOp, hv, List.length_nil, run_convert_bytes_string w s t e _ _ _ h1 h2 h3, Sem.run_bind]
      simp [Conv.bytesToString, ofB]
    · cases k5
  | some a =>
    have hl : (loadCells a l.length).run P w = .ok (l.map (Value.int .u8)).toArray w := by
      have hh := run_loadCells_list (P := P) w a (l.map (Value.int .u8)) (fun j u hj => by
        rcases k5 with k5 | ⟨a', k5, k6, k7⟩
        · rw [k5] at hj; simp at hj
        · obtain rfl := Option.some.inj k5
          obtain ⟨ab, ao, as⟩ := a
          simp only at k6
          subst k6
          rw [addr_add]
          exact hc _ _ _ (k7 j u hj))
      simpa using hh
    simp only [execOp, hv, Sem.run_bind, run_convert_bytes_string w s t e _ _ _ h1 h2 h3, run_bytesToString w a _ _ l hl]
    simp [ofB]
end
end Sp
namespace Sp
open Go Go.RowKit
section
variable {I : IMem} {α : Type}
theorem Flat.imp {r r' : RTy α} (h : ∀ cs x, r.rep I cs x → r'.rep I cs x) : ∀ {l : List α} {cs : List Value}, Flat r I cs l → Flat r' I cs l
  | [], _, hf => hf
  | _ :: _, _, ⟨c, cs', e, h1, h2⟩ => ⟨c, cs', e, h _ _ h1, Flat.imp h h2⟩
theorem SlR.imp {r r' : RTy α} (h : ∀ cs x, r.rep I cs x → r'.rep I cs x) {v : Value} {l : List α} : SlR r I v l → SlR r' I v l
  | ⟨A, c, cs, h1, h2, h3, h4, h5⟩ => ⟨A, c, cs, h1, h2, h3, h4.imp h, h5⟩
theorem Flat.sup {r : RTy α} {N : Nat → RTy α} (hm : ∀ k m, k ≤ m → ∀ cs x, (N k).rep I cs x → (N m).rep I cs x) (hr : ∀ cs x, r.rep I cs x → ∃ k, (N k).rep I cs x) :
    ∀ {l : List α} {cs : List Value}, Flat r I cs l → ∃ k, Flat (N k) I cs l
  | [], _, hf => ⟨0, hf⟩
  | _ :: _, _, ⟨c, cs', e, h1, h2⟩ => by
    obtain ⟨k, hk⟩ := hr _ _ h1
    obtain ⟨m, hm'⟩ := Flat.sup hm hr h2
    exact ⟨max k m, c, cs', e, hm _ _ (Nat.le_max_left _ _) _ _ hk, hm'.imp (hm _ _ (Nat.le_max_right _ _))⟩
theorem SlR.sup {r : RTy α} {N : Nat → RTy α} (hm : ∀ k m, k ≤ m → ∀ cs x, (N k).rep I cs x → (N m).rep I cs x) (hr : ∀ cs x, r.rep I cs x → ∃ k, (N k).rep I cs x) {v : Value} {l : List α} :
    SlR r I v l → ∃ k, SlR (N k) I v l
  | ⟨A, c, cs, h1, h2, h3, h4, h5⟩ => by
    obtain ⟨k, hk⟩ := h4.sup hm hr
    exact ⟨k, A, c, cs, h1, h2, h3, hk, h5⟩
end
end Sp
namespace Sp
open Go Go.RowKit
theorem FW.anew {P : Program} {n : Nat} {c : Code} {Q : Exit → Env → World → Prop} {σ : Env} {w : World} (l : List (Nat × Value)) (h : Has σ l) (k : ∀ σ, FW P n c Q (puts σ l) w) : FW P n c Q σ w := by
  rw [Has.eq h]; exact k σ
end Sp
namespace Sp
open Go Go.RowKit
theorem x_mkfL {P : Program} {σ : Env} {w : World} {d : Option Nat} {ty : TypeId} {pos : String} {af : Array Edge} {g : Option (Nat × Bool)} {f : FuncId} {cap : List Operand} {l : List Value} (h : cap.map (ev σ) = l) :
    (execOp (ev σ) ⟨d, .makeFunc (.func f) #[] cap.toArray, ty, pos, af, g⟩).run P w = .ok (.value (.func (.func f) #[] l.toArray)) w := by
  rw [x_mkf]
  subst h
  simp
end Sp
namespace Sp
open Go Go.RowKit
section
variable {P : Program} {σ : Env} {w : World} {d : Option Nat} {ty : TypeId} {pos : String} {af : Array Edge} {g : Option (Nat × Bool)} {v : Value}
theorem x_movV {x : Operand} (h : ev σ x = v) : (execOp (ev σ) ⟨d, .move x, ty, pos, af, g⟩).run P w = .ok (.value v) w := by rw [← h]; exact x_mov x
theorem x_asgV {x : Operand} (h : ev σ x = v) : (execOp (ev σ) ⟨d, .assign x, ty, pos, af, g⟩).run P w = .ok (.value v) w := by rw [← h]; exact x_asg x
theorem x_pickTV {c x y : Operand} {b : Bool} (hc : ev σ c = .bool b) (hb : b = true) (h : ev σ x = v) : (execOp (ev σ) ⟨d, .pick c x y, ty, pos, af, g⟩).run P w = .ok (.value v) w := by rw [← h]; exact x_pickT hc hb
theorem x_pickFV {c x y : Operand} {b : Bool} (hc : ev σ c = .bool b) (hb : b = false) (h : ev σ y = v) : (execOp (ev σ) ⟨d, .pick c x y, ty, pos, af, g⟩).run P w = .ok (.value v) w := by rw [← h]; exact x_pickF hc hb
end
end Sp
