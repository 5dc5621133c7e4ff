/-
  ORDERS THAT ARE OPEN; pointers that are data; arrays that are owned and written.
-/
import Derived.Test.YtkkflfmonidepaaDoorEng8
namespace Sp
open Go Go.RowKit

section
variable {P : Program} {σ : Env} {w : World} {I : IMem} {L : List It} {K : Env → World → Prop} {α : Type} {r : RTy α} {n : Nat}
variable {d : Option Nat} {ty : TypeId} {pos : String} {af : Array Edge} {g : Option (Nat × Bool)}

theorem andI {a b : Prop} (h : a) (k : a → b) : a ∧ b := ⟨h, k h⟩

/-! ### Regions whose order is open -/

/-- What stands whatever comes up: I, and some items. -/
def Stab (I : IMem) (Ls : List It) (w : World) : Prop := ∃ J L', I.le J ∧ Own J w (Ls ++ L')

theorem Stab.load {Ls : List It} {b : Nat} {T : TypeId} {cs : List Value} (h : Stab I Ls w) (i : Nat) (hi : Ls[i]? = some (.bk b T cs)) (o : Nat) {v : Value} (hv : cs[o]? = some v) : w.cell? ⟨b, o, none⟩ = some v := by
  obtain ⟨J, L', _, S⟩ := h
  exact S.load i (by rw [List.getElem?_append_left (List.getElem?_eq_some_iff.1 hi).1]; exact hi) o hv
theorem Stab.loadN {Ls : List It} {b : Nat} {T : TypeId} {cs : List Value} (h : Stab I Ls w) (i : Nat) (hi : Ls[i]? = some (.bk b T cs)) (o n : Nat) : ∀ j u, ((cs.drop o).take n)[j]? = some u → w.cell? ⟨b, o + j, none⟩ = some u := by
  obtain ⟨J, L', _, S⟩ := h
  exact S.loadN i (by rw [List.getElem?_append_left (List.getElem?_eq_some_iff.1 hi).1]; exact hi) o n
theorem Stab.loadW {Ls : List It} {b : Nat} {T : TypeId} {cs : List Value} (h : Stab I Ls w) (i : Nat) (hi : Ls[i]? = some (.bk b T cs)) : ∀ j u, cs[j]? = some u → w.cell? ⟨b, 0 + j, none⟩ = some u := by
  obtain ⟨J, L', _, S⟩ := h
  exact S.loadW i (by rw [List.getElem?_append_left (List.getElem?_eq_some_iff.1 hi).1]; exact hi)
theorem Stab.cell {Ls : List It} (h : Stab I Ls w) (b o : Nat) (v : Value) (hc : I.cell b o = some v) : w.cell? ⟨b, o, none⟩ = some v := by
  obtain ⟨J, L', hJ, S⟩ := h
  exact S.cell _ _ _ (hJ.cell _ _ _ hc)
theorem Stab.loadI {Ls : List It} {b o : Nat} {cs : List Value} (h : Stab I Ls w) (hc : At I b o cs) : ∀ j u, cs[j]? = some u → w.cell? ⟨b, o + j, none⟩ = some u :=
  fun j u hj => h.cell _ _ _ (hc j u hj)

theorem gT {A : Array Oper} {j t : Nat} {b x : Bool} (ht : (A[j]?).bind (·.dst) = some t) (hx : σ t = .bool x) (hb : x = b) : gOK A σ (some (j, b)) = true := by
  simp only [gOK, ht, hx, hb]; simp

theorem Stab.of {J : IMem} (S : Own J w L) (i : Nat) {x : It} (hi : L[i]? = some x) (h : I.le J) : Stab I [x] w := ⟨J, _, h, S.pick i hi⟩
theorem Stab.nil {J : IMem} (S : Own J w L) (h : I.le J) : Stab I [] w := ⟨J, _, h, S⟩

theorem e_ia {S : World → Prop} {t e sz by' : Nat} (ht : tSl P t = some (e, sz, by')) (hr : r.sz = sz) (hs : Nat.blt 0 sz = true) {x i : Operand} {l : List α} {k : IntKind} {j : Int} {y : α} (h : SlR r I (ev σ x) l) (hi : ev σ i = .int k j) (hy : lat l j = some y) :
    ∃ v, (∃ b o cs, v = .pointer (some ⟨b, o, none⟩) ∧ r.rep I cs y ∧ At I b o cs) ∧ ∀ w, S w → (execOp (ev σ) ⟨d, .indexAddr t x i, ty, pos, af, g⟩).run P w = .ok (.value v) w := by
  obtain ⟨h0, h1, h2⟩ := lat_ok hy
  subst hr
  obtain ⟨b, o, c, cs, hv, h3, h4⟩ := h.at h2 (Nat.le_of_ble_eq_true hs)
  exact ⟨_, ⟨b, _, cs, rfl, h3, h4⟩, fun w _ => x_ia ht hv hi h0 (by exact_mod_cast h1)⟩

theorem x_sat {t : Nat} (ht : tStr P t = true) {x i : Operand} {s : ByteArray} {k : IntKind} {j c : Int} (hx : ev σ x = .string s) (hi : ev σ i = .int k j) (hc : sat s j = some c) :
    (execOp (ev σ) ⟨d, .index t x i, ty, pos, af, g⟩).run P w = .ok (.value (.int .u8 c)) w := by
  obtain ⟨h0, q, h1, rfl⟩ := sat_ok hc
  exact x_idxs ht hx hi h0 h1
theorem x_catD {xt yt : Nat} {x y : Operand} {a b c : ByteArray} (hx : ev σ x = .string a) (hy : ev σ y = .string b) (hc : scat a b = some c) : (execOp (ev σ) ⟨d, .binOp .add xt x y yt, ty, pos, af, g⟩).run P w = .ok (.value (.string c)) w := by
  obtain ⟨h1, rfl⟩ := scat_ok hc
  exact x_cat hx hy h1

/-! ### Pointers that are data -/

def PtR (r : RTy α) (I : IMem) (v : Value) (x : Option α) : Prop :=
  match x with
  | none => v = .pointer none
  | some y => ∃ b o cs, v = .pointer (some ⟨b, o, none⟩) ∧ r.rep I cs y ∧ At I b o cs

theorem PtR.mono {J : IMem} {v : Value} {x : Option α} (h : PtR r I v x) (hl : I.le J) : PtR r J v x := by
  cases x with
  | none => exact h
  | some y => obtain ⟨b, o, cs, h1, h2, h3⟩ := h; exact ⟨b, o, cs, h1, r.mono hl h2, h3.mono hl⟩
theorem PtR.one {v : Value} {x : Option α} (h : PtR r I v x) : v.oneCell' = true := by
  cases x with
  | none => rw [show v = .pointer none from h]; rfl
  | some y => obtain ⟨b, o, cs, rfl, _⟩ := h; rfl
theorem PtR.is {v : Value} {x : Option α} (h : PtR r I v x) : ∃ a, v = .pointer a ∧ a.isNone = x.isNone := by
  cases x with
  | none => exact ⟨none, h, rfl⟩
  | some y => obtain ⟨b, o, cs, rfl, _⟩ := h; exact ⟨_, rfl, rfl⟩
theorem PtR.some {v : Value} {x : Option α} {y : α} (h : PtR r I v x) (hx : x = .some y) : ∃ b o cs, v = .pointer (.some ⟨b, o, none⟩) ∧ r.rep I cs y ∧ At I b o cs := by
  subst hx; exact h
def tPoint (r : RTy α) : RTy (Option α) where
  sz := 1
  rep I cs x := ∃ v, cs = [v] ∧ PtR r I v x
  mono := fun h ⟨v, e, k⟩ => ⟨v, e, k.mono h⟩
  len := fun ⟨v, e, _⟩ => by rw [e]; rfl
  one := fun ⟨v, e, k⟩ u hu => by rw [e] at hu; simp at hu; subst hu; exact k.one

theorem x_onil {t yt e : Nat} (ht : P.underlying t = some (.pointer e)) {x y : Operand} {z : Option α} (h : PtR r I (ev σ x) z) (hy : ev σ y = .pointer none) :
    (execOp (ev σ) ⟨d, .binOp .eql t x y yt, ty, pos, af, g⟩).run P w = .ok (.value (.bool z.isNone)) w := by
  obtain ⟨a, h1, h2⟩ := h.is
  rw [← h2]; exact x_pnil ht h1 hy
theorem x_onnil {t yt e : Nat} (ht : P.underlying t = some (.pointer e)) {x y : Operand} {z : Option α} (h : PtR r I (ev σ x) z) (hy : ev σ y = .pointer none) :
    (execOp (ev σ) ⟨d, .binOp .neq t x y yt, ty, pos, af, g⟩).run P w = .ok (.value (.bool !z.isNone)) w := by
  obtain ⟨a, h1, h2⟩ := h.is
  rw [← h2]; exact x_pnnil ht h1 hy

/-- An owned block becomes data. -/
theorem Own.freezeB {b : Nat} {T : TypeId} {cs : List Value} {x : α} (S : Own I w L) (i : Nat) (hi : L[i]? = some (.bk b T cs)) (hr : r.rep I cs x) :
    ∃ J, I.le J ∧ Own J w (L.eraseIdx i) ∧ PtR r J (.pointer (some ⟨b, 0, none⟩)) (some x) := by
  have S0 := S.pick i hi
  obtain ⟨p1, p2⟩ := List.pairwise_cons.1 S0.apart
  obtain ⟨h1, h2, h3⟩ : w.heap[b]? = some (.cells cs.toArray T (0, 0)) ∧ I.blk b = none ∧ ∀ o, I.cell b o = none := S0.items _ (List.mem_cons_self ..)
  have hle : I.le (I.ext b 0 cs) := IMem.le_ext fun o _ => h3 o
  refine ⟨I.ext b 0 cs, hle, ⟨fun b' o' u hu' => ?_, S0.blk, S0.os, S0.out, S0.tape, fun y hq => ?_, p2⟩, ⟨b, 0, cs, rfl, r.mono hle hr, fun j u hj => ?_⟩⟩
  · simp only [IMem.ext] at hu'
    split at hu'
    · rename_i hbo
      obtain ⟨rfl, _⟩ := hbo
      rw [Nat.sub_zero] at hu'
      simp only [World.cell?, h1]
      simpa using hu'
    · exact S0.cell _ _ _ hu'
  · refine It.ok_same (S0.items y (List.mem_cons_of_mem _ hq)) fun b' hb' => ⟨rfl, rfl, fun o' => ?_⟩
    simp only [IMem.ext]
    rw [if_neg (fun hh => p1 y hq b rfl (by rw [← hh.1]; exact hb'))]
  · simp only [IMem.ext]
    rw [if_pos ⟨trivial, Nat.zero_le _⟩]
    simpa using hj

/-! ### Arrays that are owned -/

theorem av_shape {v : Value} {T sz : Nat} {cs : List Value} {l : List α} (S : Own I w L) (i : Nat) (hi : L[i]? = some (.av v T sz cs)) (hf : Flat r I cs l) (hr : r.sz = sz) (hs : Nat.blt 0 sz = true) :
    (∃ A c, v = .slice A l.length c) ∧ (l ≠ [] → ∃ b c, v = .slice (some ⟨b, 0, none⟩) l.length c ∧ ∀ k u, cs[k]? = some u → w.cell? ⟨b, k, none⟩ = some u) := by
  have a2 : 0 < sz := Nat.le_of_ble_eq_true hs
  have hlen := hf.length
  have hok := S.items _ (List.mem_of_getElem? hi)
  cases v with
  | slice a n c =>
    cases a with
    | none =>
      obtain ⟨rfl, rfl, rfl⟩ : n = 0 ∧ c = 0 ∧ cs = [] := hok
      have hl0 : l = [] := by
        cases l with
        | nil => rfl
        | cons x xs => rw [hr] at hlen; simp only [List.length_nil, List.length_cons, Nat.add_mul] at hlen; omega
      subst hl0
      exact ⟨⟨_, _, rfl⟩, fun h => absurd rfl h⟩
    | some a =>
      obtain ⟨ho, hsp, hnc, hcm, hb, hcell, hcl, C, hC, hCs, hCt⟩ : a.off = 0 ∧ a.spot = none ∧ n ≤ c ∧ c ≤ maxLen ∧ I.blk a.block = none ∧ (∀ o, I.cell a.block o = none) ∧ cs.length = n * sz ∧ ∃ C, w.heap[a.block]? = some (.cells C T (0, 0)) ∧ C.size = c * sz ∧ C.toList.take (n * sz) = cs := hok
      obtain ⟨b, o, s⟩ := a
      simp only at ho hsp hC
      subst ho
      subst hsp
      have hn : n = l.length := by
        rw [hcl, hr] at hlen
        exact Nat.eq_of_mul_eq_mul_right a2 hlen
      subst hn
      refine ⟨⟨_, _, rfl⟩, fun _ => ⟨b, c, rfl, fun k u hk => ?_⟩⟩
      rw [← hCt, List.getElem?_take] at hk
      split at hk
      · simp only [World.cell?, hC]
        simpa using hk
      · cases hk
  | _ => exact hok.elim

theorem x_lenV {t e sz by' : Nat} (ht : tSl P t = some (e, sz, by')) (hr : r.sz = sz) (hs : Nat.blt 0 sz = true) {x : Operand} {l : List α} {cs : List Value} (S : Own I w L) (i : Nat) (hi : L[i]? = some (.av (ev σ x) e sz cs)) (hf : Flat r I cs l) :
    (execOp (ev σ) ⟨d, .call ⟨.builtin .len, #[x], #[t]⟩, ty, pos, af, g⟩).run P w = .ok (.value (.int .i64 l.length)) w := by
  obtain ⟨⟨A, c, h⟩, _⟩ := av_shape S i hi hf hr hs
  exact x_len ht h

/-- The place of an element of an owned array. -/
theorem e_iaV {t e sz by' : Nat} (ht : tSl P t = some (e, sz, by')) (hr : r.sz = sz) (hs : Nat.blt 0 sz = true) {x i : Operand} {l : List α} {cs : List Value} {k : IntKind} {j : Int} {y : α} (S : Own I w L) (q : Nat) (hq : L[q]? = some (.av (ev σ x) e sz cs)) (hf : Flat r I cs l) (hi : ev σ i = .int k j) (hy : lat l j = some y) :
    ∃ b c' c, ev σ x = .slice (some ⟨b, 0, none⟩) l.length c ∧ r.rep I c' y ∧ (∀ p u, c'[p]? = some u → cs[j.toNat * sz + p]? = some u) ∧
      ∀ w, (execOp (ev σ) ⟨d, .indexAddr t x i, ty, pos, af, g⟩).run P w = .ok (.value (.pointer (some ⟨b, j.toNat * sz, none⟩))) w := by
  obtain ⟨h0, h1, h2⟩ := lat_ok hy
  obtain ⟨_, h3⟩ := av_shape S q hq hf hr hs
  obtain ⟨b, c, hv, _⟩ := h3 (fun e => by rw [e] at h2; simp at h2)
  obtain ⟨c', h4, h5⟩ := hf.at h2
  rw [hr] at h5
  refine ⟨b, c', c, hv, h4, h5, fun w => ?_⟩
  have := x_ia (P := P) (w := w) (d := d) (ty := ty) (pos := pos) (af := af) (g := g) ht hv hi h0 (by exact_mod_cast h1)
  rw [Nat.zero_add] at this
  exact this
theorem o_iaV {t e sz by' : Nat} (ht : tSl P t = some (e, sz, by')) (hr : r.sz = sz) (hs : Nat.blt 0 sz = true) {x i : Operand} {l : List α} {cs : List Value} {k : IntKind} {j : Int} {y : α} (S : Own I w L) (q : Nat) (hq : L[q]? = some (.av (ev σ x) e sz cs)) (hf : Flat r I cs l) (hi : ev σ i = .int k j) (hy : lat l j = some y)
    (h : ∀ b c' c, ev σ x = .slice (some ⟨b, 0, none⟩) l.length c → r.rep I c' y → (∀ p u, c'[p]? = some u → cs[j.toNat * sz + p]? = some u) → K (σ.put d (.pointer (some ⟨b, j.toNat * sz, none⟩))) w) : OW P ⟨d, .indexAddr t x i, ty, pos, af, g⟩ K σ w := by
  obtain ⟨b, c', c, h1, h2, h3, h4⟩ := e_iaV (P := P) (d := d) (ty := ty) (pos := pos) (af := af) (g := g) ht hr hs S q hq hf hi hy
  exact OW.val (h4 w) (h b c' c h1 h2 h3)

theorem Own.loadV {v : Value} {T sz : Nat} {cs : List Value} {b n c : Nat} (S : Own I w L) (i : Nat) (hi : L[i]? = some (.av v T sz cs)) (hv : v = .slice (some ⟨b, 0, none⟩) n c) {k : Nat} {u : Value} (hk : cs[k]? = some u) : w.cell? ⟨b, k, none⟩ = some u := by
  subst hv
  obtain ⟨ho, hsp, hnc, hcm, hb, hcell, hcl, C, hC, hCs, hCt⟩ : 0 = 0 ∧ (none : Option Nat) = none ∧ n ≤ c ∧ c ≤ maxLen ∧ I.blk b = none ∧ (∀ o, I.cell b o = none) ∧ cs.length = n * sz ∧ ∃ C, w.heap[b]? = some (.cells C T (0, 0)) ∧ C.size = c * sz ∧ C.toList.take (n * sz) = cs := S.items _ (List.mem_of_getElem? hi)
  rw [← hCt, List.getElem?_take] at hk
  split at hk
  · simp only [World.cell?, hC]
    simpa using hk
  · cases hk

theorem take_setAt : ∀ (vs : List Value) (C : List Value) (m o : Nat), o + vs.length ≤ m → (setAt C o vs).take m = setAt (C.take m) o vs
  | [], _, _, _, _ => rfl
  | v :: vs, C, m, o, h => by
    simp only [List.length_cons] at h
    rw [setAt, setAt, take_setAt vs _ m (o + 1) (by omega), List.take_set]

theorem Own.storeV {v : Value} {T sz : Nat} {cs : List Value} {b n c : Nat} (S : Own I w L) (i : Nat) (hi : L[i]? = some (.av v T sz cs)) (hv : v = .slice (some ⟨b, 0, none⟩) n c) (k : Nat) (vs : List Value) (hk : k + vs.length ≤ cs.length) (h1 : ∀ u ∈ vs, u.oneCell' = true) :
    ∃ w', (storeCells ⟨b, k, none⟩ vs 0).run P w = .ok () w' ∧ Own I w' (L.set i (.av v T sz (setAt cs k vs))) := by
  have S0 := S.pick i hi
  subst hv
  obtain ⟨ho, hsp, hnc, hcm, hb, hcell, hcl, C, hC, hCs, hCt⟩ : 0 = 0 ∧ (none : Option Nat) = none ∧ n ≤ c ∧ c ≤ maxLen ∧ I.blk b = none ∧ (∀ o, I.cell b o = none) ∧ cs.length = n * sz ∧ ∃ C, w.heap[b]? = some (.cells C T (0, 0)) ∧ C.size = c * sz ∧ C.toList.take (n * sz) = cs := S.items _ (List.mem_of_getElem? hi)
  have hC' : w.heap[b]? = some (.cells C.toList.toArray T (0, 0)) := by simpa using hC
  have hle : n * sz ≤ c * sz := Nat.mul_le_mul_right _ hnc
  have hCl : C.toList.length = c * sz := by simpa using hCs
  obtain ⟨w', r1, r2, r3, r4, r5, r6⟩ := run_storeCells_setAt (P := P) b T vs k 0 C.toList w hC' (by omega) h1
  rw [Nat.add_zero] at r2
  refine ⟨w', r1, (S0.turn (x' := .av (.slice (some ⟨b, 0, none⟩) n c) T sz (setAt cs k vs)) rfl (fun q hq => hq) hcell hb r3 r4 r5 r6 ⟨rfl, rfl, hnc, hcm, hb, hcell, ?_, _, r2, ?_, ?_⟩).perm (perm_set L i _ _ hi)⟩
  · rw [setAt_length]; exact hcl
  · simp only [List.size_toArray, setAt_length]; exact hCl
  · simp only []
    rw [take_setAt vs _ _ _ (by omega), hCt]

theorem Flat.updA : ∀ {l : List α} {cs vs : List Value} {i f : Nat} {x y : α} {c : List Value}, Flat r I cs l → l[i]? = some x → r.rep I c x → (∀ p u, c[p]? = some u → cs[i * r.sz + p]? = some u) → f + vs.length ≤ r.sz → r.rep I (setAt c f vs) y → Flat r I (setAt cs (i * r.sz + f) vs) (l.set i y) := by
  have comm : ∀ (vs pre cs : List Value) (o : Nat), setAt (pre ++ cs) (pre.length + o) vs = pre ++ setAt cs o vs := by
    intro vs
    induction vs with
    | nil => intros; rfl
    | cons v vs ih =>
      intro pre cs o
      rw [setAt, setAt, List.set_append_right _ _ (by omega), show pre.length + o - pre.length = o by omega, show pre.length + o + 1 = pre.length + (o + 1) by omega, ih]
  have left : ∀ (vs c rest : List Value) (o : Nat), o + vs.length ≤ c.length → setAt (c ++ rest) o vs = setAt c o vs ++ rest := by
    intro vs
    induction vs with
    | nil => intros; rfl
    | cons v vs ih =>
      intro c rest o h
      simp only [List.length_cons] at h
      rw [setAt, setAt, List.set_append_left _ _ (by omega), ih _ _ _ (by simp; omega)]
  intro l
  induction l with
  | nil => intro cs vs i f x y c _ h; simp at h
  | cons z zs ih =>
    intro cs vs i f x y c hf hx hr hc hl hy
    obtain ⟨c0, ds, rfl, h1, h2⟩ := hf
    have hl0 := r.len h1
    have hlc := r.len hr
    cases i with
    | zero =>
      simp only [Nat.zero_mul, Nat.zero_add] at hc ⊢
      simp only [List.getElem?_cons_zero, Option.some.injEq] at hx
      subst hx
      have he : c = c0 := by
        apply List.ext_getElem?
        intro p
        rcases Nat.lt_or_ge p c.length with hp | hp
        · have h3 := hc p c[p] (List.getElem?_eq_getElem hp)
          rw [List.getElem?_append_left (by omega)] at h3
          rw [h3, List.getElem?_eq_getElem hp]
        · rw [List.getElem?_eq_none hp, List.getElem?_eq_none (by omega)]
      subst he
      rw [left _ _ _ _ (by omega), List.set_cons_zero]
      exact ⟨_, ds, rfl, hy, h2⟩
    | succ i =>
      simp only [List.getElem?_cons_succ] at hx
      rw [List.set_cons_succ]
      have e : (i + 1) * r.sz + f = c0.length + (i * r.sz + f) := by rw [hl0, Nat.add_mul]; omega
      rw [e, comm]
      refine ⟨c0, _, rfl, h1, ih h2 hx hr (fun p u hp => ?_) hl hy⟩
      have h3 := hc p u hp
      rw [show (i + 1) * r.sz + p = c0.length + (i * r.sz + p) by rw [hl0, Nat.add_mul]; omega] at h3
      rw [List.getElem?_append_right (by omega)] at h3
      rw [← h3]; congr 1; omega

theorem setAt_one (cs : List Value) (o : Nat) (v : Value) : setAt cs o [v] = cs.set o v := rfl

/-- A cell of an element of an owned array is written. -/
theorem o_stV {t : TypeId} (ht : tOne P t = true) {e sz : Nat} {cs c' : List Value} {l : List α} {x z : Operand} {b n c k f : Nat} {j : Int} {v : Value} {y y' : α} (hr : r.sz = sz) (S : Own I w L) (i : Nat) (hi : L[i]? = some (.av v e sz cs)) (hv : v = .slice (some ⟨b, 0, none⟩) n c) (hf : Flat r I cs l) (hy : lat l j = some y)
    (hrep : r.rep I c' y) (hc : ∀ p u, c'[p]? = some u → cs[j.toNat * sz + p]? = some u) (hk : k = j.toNat * sz + f) (hfs : Nat.blt f sz = true)
    (hx : ev σ x = .pointer (some ⟨b, k, none⟩)) (h1 : (ev σ z).oneCell' = true) (hrep' : r.rep I (setAt c' f [ev σ z]) y')
    (h : ∀ w' cs', Own I w' (L.set i (.av v e sz cs')) → Flat r I cs' (l.set j.toNat y') → K (σ.put d undef) w') : OW P ⟨d, .store t x z, ty, pos, af, g⟩ K σ w := by
  subst hr
  subst hk
  obtain ⟨h0, h2, h3⟩ := lat_ok hy
  have hfs' : f + 1 ≤ r.sz := Nat.le_of_ble_eq_true hfs
  have hbound : j.toNat * r.sz + f + 1 ≤ cs.length := by
    rw [hf.length]
    have h4 : j.toNat + 1 ≤ l.length := by omega
    have h5 := Nat.mul_le_mul_right r.sz h4
    rw [Nat.add_mul] at h5; omega
  obtain ⟨w', r1, r2⟩ := S.storeV (P := P) i hi hv (j.toNat * r.sz + f) [ev σ z] hbound (fun u hu => by simp at hu; subst hu; exact h1)
  refine OW.unit (w' := w') ?_ (h w' _ r2 (Flat.updA hf h3 hrep hc hfs' hrep'))
  simp [execOp, Instr.storeAt, hx, Instr.sureAddr, storeVar, cells_one h1, tOne_spec ht, r1]
theorem o_stVA {t m : TypeId} (ht : tAg P t = some m) {e sz : Nat} {cs c' vs : List Value} {l : List α} {x z : Operand} {b n c k f : Nat} {j : Int} {v : Value} {y y' : α} (hr : r.sz = sz) (S : Own I w L) (i : Nat) (hi : L[i]? = some (.av v e sz cs)) (hv : v = .slice (some ⟨b, 0, none⟩) n c) (hf : Flat r I cs l) (hy : lat l j = some y)
    (hrep : r.rep I c' y) (hc : ∀ p u, c'[p]? = some u → cs[j.toNat * sz + p]? = some u) (hk : k = j.toNat * sz + f)
    (hx : ev σ x = .pointer (some ⟨b, k, none⟩)) (hz : ev σ z = .agg vs.toArray) (hn : vs.length = m) (hfs : Nat.ble (f + vs.length) sz = true) (h1 : ∀ u ∈ vs, u.oneCell' = true) (hrep' : r.rep I (setAt c' f vs) y')
    (h : ∀ w' cs', Own I w' (L.set i (.av v e sz cs')) → Flat r I cs' (l.set j.toNat y') → K (σ.put d undef) w') : OW P ⟨d, .store t x z, ty, pos, af, g⟩ K σ w := by
  subst hr
  subst hk
  obtain ⟨h0, h2, h3⟩ := lat_ok hy
  have hfs' : f + vs.length ≤ r.sz := Nat.le_of_ble_eq_true hfs
  have hbound : j.toNat * r.sz + f + vs.length ≤ cs.length := by
    rw [hf.length]
    have h4 : j.toNat + 1 ≤ l.length := by omega
    have h5 := Nat.mul_le_mul_right r.sz h4
    rw [Nat.add_mul] at h5; omega
  obtain ⟨k1, k2⟩ := tAg_spec (P := P) (w := w) ht
  obtain ⟨w', r1, r2⟩ := S.storeV (P := P) i hi hv (j.toNat * r.sz + f) vs hbound h1
  refine OW.unit (w' := w') ?_ (h w' _ r2 (Flat.updA hf h3 hrep hc hfs' hrep'))
  simp [execOp, Instr.storeAt, hx, Instr.sureAddr, storeVar, hz, Value.cells, hn, k2, r1]

end
end Sp
