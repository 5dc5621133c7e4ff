/-
  Parts of the proof, merged: Eng7, Eng8, Eng9, Eng10, Eng11, Eng12.
-/
import Derived.Laws.RangeString
import Derived.Test.YtafnenafbognkaaGreatDoorW3
namespace Sp
open Go Go.RowKit
section
variable {P : Program} {σ : Env} {w : World} {I : IMem} {L : List It} {K : Env → World → Prop}
variable {d : Option Nat} {ty : TypeId} {pos : String} {af : Array Edge} {g : Option (Nat × Bool)}
theorem apart_at (S : Own I w L) {i j : Nat} {x y : It} (hi : L[i]? = some x) (hj : L[j]? = some y) (h : i ≠ j) : apartIt x y := by
  have hp := List.pairwise_iff_getElem.1 S.apart
  obtain ⟨h1, rfl⟩ := List.getElem?_eq_some_iff.1 hi
  obtain ⟨h2, rfl⟩ := List.getElem?_eq_some_iff.1 hj
  rcases Nat.lt_or_gt_of_ne h with h | h
  · exact hp i j h1 h2 h
  · exact (hp j i h2 h1 h).symm
def allDiff (n : Nat) : List Nat → Bool
  | [] => true
  | i :: is => Nat.blt i n && is.all (fun j => !Nat.beq i j) && allDiff n is
theorem sel_apart (S : Own I w L) (n : Nat) : ∀ (is : List Nat), allDiff n is = true → (is.filterMap (fun i => L[i]?)).Pairwise apartIt ∧ (∀ x ∈ is.filterMap (fun i => L[i]?), ∃ i ∈ is, L[i]? = some x) ∧ ∀ i ∈ is, i < n
  | [], _ => ⟨List.Pairwise.nil, fun x hx => by simp at hx, fun i hi => by cases hi⟩
  | i :: is, h => by
    simp only [allDiff, Bool.and_eq_true] at h
    obtain ⟨⟨h1, h2⟩, h3⟩ := h
    obtain ⟨k1, k2, k3⟩ := sel_apart S n is h3
    have hlt : i < n := Nat.le_of_ble_eq_true h1
    have hd : ∀ j ∈ is, i ≠ j := fun j hj e => by
      have := List.all_eq_true.1 h2 j hj
      subst e
      simp at this
    refine ⟨?_, ?_, fun j hj => ?_⟩
    · cases hi : L[i]? with
      | none => simp only [List.filterMap_cons, hi]; exact k1
      | some x =>
        simp only [List.filterMap_cons, hi]
        refine List.pairwise_cons.2 ⟨fun y hy => ?_, k1⟩
        obtain ⟨j, hj, hjy⟩ := k2 y hy
        exact apart_at S hi hjy (hd j hj)
    · intro x hx
      rw [List.filterMap_cons] at hx
      cases hi : L[i]? with
      | none =>
        simp only [hi] at hx
        obtain ⟨j, hj, h⟩ := k2 x hx
        exact ⟨j, List.mem_cons_of_mem _ hj, h⟩
      | some y =>
        simp only [hi] at hx
        rcases List.mem_cons.1 hx with rfl | hx
        · exact ⟨i, List.mem_cons_self .., hi⟩
        · obtain ⟨j, hj, h⟩ := k2 x hx
          exact ⟨j, List.mem_cons_of_mem _ hj, h⟩
    · rcases List.mem_cons.1 hj with rfl | hj
      · exact hlt
      · exact k3 j hj
theorem Own.sel (S : Own I w L) (n : Nat) (is : List Nat) (h : allDiff n is = true) : Own I w (is.filterMap (fun i => L[i]?) ++ L.drop n) := by
  obtain ⟨k1, k2, k3⟩ := sel_apart S n is h
  have hd : ∀ x ∈ L.drop n, ∃ j, n ≤ j ∧ L[j]? = some x := fun x hx => by
    obtain ⟨j, hj⟩ := List.mem_iff_getElem?.1 hx
    rw [List.getElem?_drop] at hj
    exact ⟨n + j, by omega, hj⟩
  refine ⟨S.cell, S.blk, S.os, S.out, S.tape, fun x hx => ?_, List.pairwise_append.2 ⟨k1, S.apart.sublist (List.drop_sublist n L), fun x hx y hy => ?_⟩⟩
  · rcases List.mem_append.1 hx with hx | hx
    · obtain ⟨i, _, hi⟩ := k2 x hx
      exact S.items x (List.mem_of_getElem? hi)
    · exact S.items x (List.mem_of_mem_drop hx)
  · obtain ⟨i, hi, hix⟩ := k2 x hx
    obtain ⟨j, hj, hjy⟩ := hd y hy
    exact apart_at S hix hjy (by have := k3 i hi; omega)
theorem Own.weaken {J : IMem} (S : Own J w L) (h : I.le J) : Own I w L := by
  have hn : ∀ b, J.blk b = none → I.blk b = none := fun b hb => by
    cases hi : I.blk b with
    | none => rfl
    | some o => rw [h.blk _ _ hi] at hb; cases hb
  have hc : ∀ b o, J.cell b o = none → I.cell b o = none := fun b o hb => by
    cases hi : I.cell b o with
    | none => rfl
    | some v => rw [h.cell _ _ _ hi] at hb; cases hb
  have ha : ∀ {v : Value} {T sz : Nat} {cs : List Value}, avOk J w v T sz cs → avOk I w v T sz cs := fun {v T sz cs} hk => by
    cases v <;> try exact hk
    rename_i a n c
    cases a with
    | none => exact hk
    | some a =>
      obtain ⟨k1, k2, k3, k4, k5, k6, k7⟩ := hk
      exact ⟨k1, k2, k3, k4, hn _ k5, fun o => hc _ _ (k6 o), k7⟩
  refine ⟨fun b o v hv => S.cell _ _ _ (h.cell _ _ _ hv), fun b o hb => S.blk _ _ (h.blk _ _ hb), S.os.trans h.os, S.out.trans h.out, S.tape.trans h.tape, fun x hx => ?_, S.apart⟩
  have hk := S.items x hx
  cases x with
  | bk b T cs => exact ⟨hk.1, hn _ hk.2.1, fun o => hc _ _ (hk.2.2 o)⟩
  | ob b o => exact ⟨hk.1, hn _ hk.2.1, fun o => hc _ _ (hk.2.2 o)⟩
  | tv v T sz =>
    cases v <;> try exact hk
    rename_i a n c
    cases a with
    | none => exact hk
    | some a =>
      obtain ⟨k1, k2, k3, k4, k5, k6, k7⟩ := hk
      exact ⟨k1, k2, k3, k4, hn _ k5, fun o ho => hc _ _ (k6 o ho), k7⟩
  | av v T sz cs => exact ha hk
  | fam T sz l => exact ⟨fun p hp => ha (hk.1 p hp), hk.2⟩
theorem ldA {t n : Nat} (ht : tAg P t = some n) {b o : Nat} {cs : List Value} (hc : ∀ j u, cs[j]? = some u → w.cell? ⟨b, o + j, none⟩ = some u) (hn : cs.length = n) : (loadVar t ⟨b, o, none⟩).run P w = .ok (.agg cs.toArray) w := by
  obtain ⟨h4, h5⟩ := tAg_spec (P := P) (w := w) ht
  subst hn
  have hl := run_loadCells_list (P := P) w ⟨b, o, none⟩ cs (fun j u hj => by rw [addr_add]; exact hc j u hj)
  simp [loadVar, h4, h5, hl]
theorem c0 : ∀ v ∈ ([] : List Value), v.oneCell' = true := fun _ h => by cases h
theorem c1 {v : Value} {l : List Value} (h : v.oneCell' = true) (k : ∀ u ∈ l, u.oneCell' = true) : ∀ u ∈ v :: l, u.oneCell' = true := fun u hu => by
  rcases List.mem_cons.1 hu with rfl | hu
  · exact h
  · exact k u hu
@[reducible] def runeAt (s : ByteArray) (p : Nat) : Int := ((Utf8.decode s p).1 : Int)
@[reducible] def runeW (s : ByteArray) (p : Nat) : Nat := (Utf8.decode s p).2
theorem o_rng {t : Nat} (ht : tStr P t = true) {x : Operand} {s : ByteArray} (hx : ev σ x = .string s) (S : Own I w L) (h : ∀ b w', Own I w' (.ob b (.stringIter s 0) :: L) → K (σ.put d (.pointer (some ⟨b, 0, none⟩))) w') :
    OW P ⟨d, .range t x, ty, pos, af, g⟩ K σ w := by
  refine OW.val (w' := w.alloc (.stringIter s 0)) ?_ (h _ _ (S.allocO _))
  have := run_range_string (P := P) w t s (tStr_spec ht)
  simp only [execOp, hx, Sem.run_bind, this, Result.andThen_ok, Sem.run_pure]
  rfl
theorem Own.setO {b : Nat} {o o' : Obj} (S : Own I w L) (i : Nat) (hi : L[i]? = some (.ob b o)) : Own I { w with heap := w.heap.setIfInBounds b o' } (L.set i (.ob b o')) := by
  have S0 := S.pick i hi
  obtain ⟨h1, h2, h3⟩ : w.heap[b]? = some o ∧ I.blk b = none ∧ ∀ q, I.cell b q = none := S0.items _ (List.mem_cons_self ..)
  refine (S0.turn (x' := .ob b o') (w' := { w with heap := w.heap.setIfInBounds b o' }) rfl (fun c hc => hc) h3 h2 (fun k hk => ?_) rfl rfl rfl ⟨?_, h2, h3⟩).perm (perm_set L i _ _ hi)
  · simp [Array.getElem?_setIfInBounds, Ne.symm hk]
  · have := (Array.getElem?_eq_some_iff.1 h1).1
    simp [this]
theorem o_nxtT {x : Operand} {b p : Nat} {s : ByteArray} (S : Own I w L) (i : Nat) (hi : L[i]? = some (.ob b (.stringIter s p))) (hx : ev σ x = .pointer (some ⟨b, 0, none⟩)) (hp : p < s.size)
    (h : ∀ w', Own I w' (L.set i (.ob b (.stringIter s (p + runeW s p)))) → K (σ.put d (.tuple #[.bool true, .int .i64 p, .int .i32 (runeAt s p)])) w') : OW P ⟨d, .next x true, ty, pos, af, g⟩ K σ w := by
  obtain ⟨h1, h2, h3⟩ : w.heap[b]? = some (.stringIter s p) ∧ I.blk b = none ∧ ∀ q, I.cell b q = none := S.items _ (List.mem_of_getElem? hi)
  refine OW.val (w' := { w with heap := w.heap.setIfInBounds b (.stringIter s (p + runeW s p)) }) ?_ (h _ (S.setO i hi))
  simp [execOp, hx, Instr.next, getObj, setObj, Sem.run, h1, hp, goInt]
theorem o_nxtF {x : Operand} {b p : Nat} {s : ByteArray} (S : Own I w L) (i : Nat) (hi : L[i]? = some (.ob b (.stringIter s p))) (hx : ev σ x = .pointer (some ⟨b, 0, none⟩)) (hp : ¬ p < s.size)
    (h : K (σ.put d (.tuple #[.bool false])) w) : OW P ⟨d, .next x true, ty, pos, af, g⟩ K σ w := by
  obtain ⟨h1, h2, h3⟩ : w.heap[b]? = some (.stringIter s p) ∧ I.blk b = none ∧ ∀ q, I.cell b q = none := S.items _ (List.mem_of_getElem? hi)
  refine OW.val (w' := w) ?_ h
  simp [execOp, hx, Instr.next, getObj, Sem.run, h1, hp]
theorem o_iaG {t n e sz : Nat} (ht : tAr P t = some (n, e, sz)) (hsz : sz = 1) {x i : Operand} {l : List Int} {k k' : IntKind} {j c : Int} {b : Nat} (hG : At I b 0 (l.map (Value.int k))) (hx : ev σ x = .pointer (some ⟨b, 0, none⟩)) (hi : ev σ i = .int k' j) (hn : l.length = n) (hc : lat l j = some c)
    (h : ∀ o, I.cell b o = some (.int k c) → K (σ.put d (.pointer (some ⟨b, o, none⟩))) w) : OW P ⟨d, .indexAddr t x i, ty, pos, af, g⟩ K σ w := by
  obtain ⟨h0, h1, h2⟩ := lat_ok hc
  refine OW.val (x_iaA ht hx hi h0 (by omega)) (h _ ?_)
  subst hsz
  have := hG j.toNat (.int k c) (by simp [h2])
  simpa using this
end
end Sp
namespace Sp
open Go Go.RowKit
@[reducible] def band (k : IntKind) (x y : Int) : Int := k.wrap (BitVec.ofInt k.bits x &&& BitVec.ofInt k.bits y).toNat
@[reducible] def bor (k : IntKind) (x y : Int) : Int := k.wrap (BitVec.ofInt k.bits x ||| BitVec.ofInt k.bits y).toNat
@[reducible] def bxor (k : IntKind) (x y : Int) : Int := k.wrap (BitVec.ofInt k.bits x ^^^ BitVec.ofInt k.bits y).toNat
@[reducible] def bandNot (k : IntKind) (x y : Int) : Int := k.wrap (BitVec.ofInt k.bits x &&& ~~~BitVec.ofInt k.bits y).toNat
@[reducible] def shl (k : IntKind) (a b : Int) : Int := k.wrap (a * 2 ^ min b.toNat k.bits)
@[reducible] def shr (_k : IntKind) (a b : Int) : Int := a.fdiv (2 ^ min b.toNat _k.bits)
@[reducible] def mn (a b : Int) : Int := if b < a then b else a
end Sp
namespace Sp
open Go Go.RowKit
section
variable {P : Program} {σ : Env} {w : World} {I : IMem} {L : List It} {K : Env → World → Prop} {α : Type} {r : RTy α} {n : Nat}
variable {d : Option Nat} {ty : TypeId} {pos : String} {af : Array Edge} {g : Option (Nat × Bool)}
theorem andI {a b : Prop} (h : a) (k : a → b) : a ∧ b := ⟨h, k h⟩
def Stab (I : IMem) (Ls : List It) (w : World) : Prop := ∃ J L', I.le J ∧ Own J w (Ls ++ L')
theorem Stab.load {Ls : List It} {b : Nat} {T : TypeId} {cs : List Value} (h : Stab I Ls w) (i : Nat) (hi : Ls[i]? = some (.bk b T cs)) (o : Nat) {v : Value} (hv : cs[o]? = some v) : w.cell? ⟨b, o, none⟩ = some v := by
  obtain ⟨J, L', _, S⟩ := h
  exact S.load i (by rw [List.getElem?_append_left (List.getElem?_eq_some_iff.1 hi).1]; exact hi) o hv
theorem Stab.loadN {Ls : List It} {b : Nat} {T : TypeId} {cs : List Value} (h : Stab I Ls w) (i : Nat) (hi : Ls[i]? = some (.bk b T cs)) (o n : Nat) : ∀ j u, ((cs.drop o).take n)[j]? = some u → w.cell? ⟨b, o + j, none⟩ = some u := by
  obtain ⟨J, L', _, S⟩ := h
  exact S.loadN i (by rw [List.getElem?_append_left (List.getElem?_eq_some_iff.1 hi).1]; exact hi) o n
theorem Stab.loadW {Ls : List It} {b : Nat} {T : TypeId} {cs : List Value} (h : Stab I Ls w) (i : Nat) (hi : Ls[i]? = some (.bk b T cs)) : ∀ j u, cs[j]? = some u → w.cell? ⟨b, 0 + j, none⟩ = some u := by
  obtain ⟨J, L', _, S⟩ := h
  exact S.loadW i (by rw [List.getElem?_append_left (List.getElem?_eq_some_iff.1 hi).1]; exact hi)
theorem Stab.cell {Ls : List It} (h : Stab I Ls w) (b o : Nat) (v : Value) (hc : I.cell b o = some v) : w.cell? ⟨b, o, none⟩ = some v := by
  obtain ⟨J, L', hJ, S⟩ := h
  exact S.cell _ _ _ (hJ.cell _ _ _ hc)
theorem Stab.loadI {Ls : List It} {b o : Nat} {cs : List Value} (h : Stab I Ls w) (hc : At I b o cs) : ∀ j u, cs[j]? = some u → w.cell? ⟨b, o + j, none⟩ = some u :=
  fun j u hj => h.cell _ _ _ (hc j u hj)
theorem gT {A : Array Oper} {j t : Nat} {b x : Bool} (ht : (A[j]?).bind (·.dst) = some t) (hx : σ t = .bool x) (hb : x = b) : gOK A σ (some (j, b)) = true := by
  simp only [gOK, ht, hx, hb]; simp
theorem Stab.of {J : IMem} (S : Own J w L) (i : Nat) {x : It} (hi : L[i]? = some x) (h : I.le J) : Stab I [x] w := ⟨J, _, h, S.pick i hi⟩
theorem Stab.nil {J : IMem} (S : Own J w L) (h : I.le J) : Stab I [] w := ⟨J, _, h, S⟩
theorem e_ia {S : World → Prop} {t e sz by' : Nat} (ht : tSl P t = some (e, sz, by')) (hr : r.sz = sz) (hs : Nat.blt 0 sz = true) {x i : Operand} {l : List α} {k : IntKind} {j : Int} {y : α} (h : SlR r I (ev σ x) l) (hi : ev σ i = .int k j) (hy : lat l j = some y) :
    ∃ v, (∃ b o cs, v = .pointer (some ⟨b, o, none⟩) ∧ r.rep I cs y ∧ At I b o cs) ∧ ∀ w, S w → (execOp (ev σ) ⟨d, .indexAddr t x i, ty, pos, af, g⟩).run P w = .ok (.value v) w := by
  obtain ⟨h0, h1, h2⟩ := lat_ok hy
  subst hr
  obtain ⟨b, o, c, cs, hv, h3, h4⟩ := h.at h2 (Nat.le_of_ble_eq_true hs)
  exact ⟨_, ⟨b, _, cs, rfl, h3, h4⟩, fun w _ => x_ia ht hv hi h0 (by exact_mod_cast h1)⟩
theorem x_sat {t : Nat} (ht : tStr P t = true) {x i : Operand} {s : ByteArray} {k : IntKind} {j c : Int} (hx : ev σ x = .string s) (hi : ev σ i = .int k j) (hc : sat s j = some c) :
    (execOp (ev σ) ⟨d, .index t x i, ty, pos, af, g⟩).run P w = .ok (.value (.int .u8 c)) w := by
  obtain ⟨h0, q, h1, rfl⟩ := sat_ok hc
  exact x_idxs ht hx hi h0 h1
theorem x_catD {xt yt : Nat} {x y : Operand} {a b c : ByteArray} (hx : ev σ x = .string a) (hy : ev σ y = .string b) (hc : scat a b = some c) : (execOp (ev σ) ⟨d, .binOp .add xt x y yt, ty, pos, af, g⟩).run P w = .ok (.value (.string c)) w := by
  obtain ⟨h1, rfl⟩ := scat_ok hc
  exact x_cat hx hy h1
def PtR (r : RTy α) (I : IMem) (v : Value) (x : Option α) : Prop :=
  match x with
  | none => v = .pointer none
  | some y => ∃ b o cs, v = .pointer (some ⟨b, o, none⟩) ∧ r.rep I cs y ∧ At I b o cs
theorem PtR.mono {J : IMem} {v : Value} {x : Option α} (h : PtR r I v x) (hl : I.le J) : PtR r J v x := by
  cases x with
  | none => exact h
  | some y => obtain ⟨b, o, cs, h1, h2, h3⟩ := h; exact ⟨b, o, cs, h1, r.mono hl h2, h3.mono hl⟩
theorem PtR.one {v : Value} {x : Option α} (h : PtR r I v x) : v.oneCell' = true := by
  cases x with
  | none => rw [show v = .pointer none from h]; rfl
  | some y => obtain ⟨b, o, cs, rfl, _⟩ := h; rfl
theorem PtR.is {v : Value} {x : Option α} (h : PtR r I v x) : ∃ a, v = .pointer a ∧ a.isNone = x.isNone := by
  cases x with
  | none => exact ⟨none, h, rfl⟩
  | some y => obtain ⟨b, o, cs, rfl, _⟩ := h; exact ⟨_, rfl, rfl⟩
theorem PtR.some {v : Value} {x : Option α} {y : α} (h : PtR r I v x) (hx : x = .some y) : ∃ b o cs, v = .pointer (.some ⟨b, o, none⟩) ∧ r.rep I cs y ∧ At I b o cs := by
  subst hx; exact h
theorem x_onil {t yt e : Nat} (ht : P.underlying t = some (.pointer e)) {x y : Operand} {z : Option α} (h : PtR r I (ev σ x) z) (hy : ev σ y = .pointer none) :
    (execOp (ev σ) ⟨d, .binOp .eql t x y yt, ty, pos, af, g⟩).run P w = .ok (.value (.bool z.isNone)) w := by
  obtain ⟨a, h1, h2⟩ := h.is
  rw [← h2]; exact x_pnil ht h1 hy
theorem Own.freezeB {b : Nat} {T : TypeId} {cs : List Value} {x : α} (S : Own I w L) (i : Nat) (hi : L[i]? = some (.bk b T cs)) (hr : r.rep I cs x) :
    ∃ J, I.le J ∧ Own J w (L.eraseIdx i) ∧ PtR r J (.pointer (some ⟨b, 0, none⟩)) (some x) := by
  have S0 := S.pick i hi
  obtain ⟨p1, p2⟩ := List.pairwise_cons.1 S0.apart
  obtain ⟨h1, h2, h3⟩ : w.heap[b]? = some (.cells cs.toArray T (0, 0)) ∧ I.blk b = none ∧ ∀ o, I.cell b o = none := S0.items _ (List.mem_cons_self ..)
  have hle : I.le (I.ext b 0 cs) := IMem.le_ext fun o _ => h3 o
  refine ⟨I.ext b 0 cs, hle, ⟨fun b' o' u hu' => ?_, S0.blk, S0.os, S0.out, S0.tape, fun y hq => ?_, p2⟩, ⟨b, 0, cs, rfl, r.mono hle hr, fun j u hj => ?_⟩⟩
  · simp only [IMem.ext] at hu'
    split at hu'
    · rename_i hbo
      obtain ⟨rfl, _⟩ := hbo
      rw [Nat.sub_zero] at hu'
      simp only [World.cell?, h1]
      simpa using hu'
    · exact S0.cell _ _ _ hu'
  · refine It.ok_same (S0.items y (List.mem_cons_of_mem _ hq)) fun b' hb' => ⟨rfl, rfl, fun o' => ?_⟩
    simp only [IMem.ext]
    rw [if_neg (fun hh => p1 y hq b rfl (by rw [← hh.1]; exact hb'))]
  · simp only [IMem.ext]
    rw [if_pos ⟨trivial, Nat.zero_le _⟩]
    simpa using hj
theorem av_shape {v : Value} {T sz : Nat} {cs : List Value} {l : List α} (S : Own I w L) (i : Nat) (hi : L[i]? = some (.av v T sz cs)) (hf : Flat r I cs l) (hr : r.sz = sz) (hs : Nat.blt 0 sz = true) :
    (∃ A c, v = .slice A l.length c) ∧ (l ≠ [] → ∃ b c, v = .slice (some ⟨b, 0, none⟩) l.length c ∧ ∀ k u, cs[k]? = some u → w.cell? ⟨b, k, none⟩ = some u) := by
  have a2 : 0 < sz := Nat.le_of_ble_eq_true hs
  have hlen := hf.length
  have hok := S.items _ (List.mem_of_getElem? hi)
  cases v with
  | slice a n c =>
    cases a with
    | none =>
      obtain ⟨rfl, rfl, rfl⟩ : n = 0 ∧ c = 0 ∧ cs = [] := hok
      have hl0 : l = [] := by
        cases l with
        | nil => rfl
        | cons x xs => rw [hr] at hlen; simp only [List.length_nil, List.length_cons, Nat.add_mul] at hlen; omega
      subst hl0
      exact ⟨⟨_, _, rfl⟩, fun h => absurd rfl h⟩
    | some a =>
      obtain ⟨ho, hsp, hnc, hcm, hb, hcell, hcl, C, hC, hCs, hCt⟩ : a.off = 0 ∧ a.spot = none ∧ n ≤ c ∧ c ≤ maxLen ∧ I.blk a.block = none ∧ (∀ o, I.cell a.block o = none) ∧ cs.length = n * sz ∧ ∃ C, w.heap[a.block]? = some (.cells C T (0, 0)) ∧ C.size = c * sz ∧ C.toList.take (n * sz) = cs := hok
      obtain ⟨b, o, s⟩ := a
      simp only at ho hsp hC
      subst ho
      subst hsp
      have hn : n = l.length := by
        rw [hcl, hr] at hlen
        exact Nat.eq_of_mul_eq_mul_right a2 hlen
      subst hn
      refine ⟨⟨_, _, rfl⟩, fun _ => ⟨b, c, rfl, fun k u hk => ?_⟩⟩
      rw [← hCt, List.getElem?_take] at hk
      split at hk
      · simp only [World.cell?, hC]
        simpa using hk
      · cases hk
  | _ => exact hok.elim
theorem x_lenV {t e sz by' : Nat} (ht : tSl P t = some (e, sz, by')) (hr : r.sz = sz) (hs : Nat.blt 0 sz = true) {x : Operand} {l : List α} {cs : List Value} (S : Own I w L) (i : Nat) (hi : L[i]? = some (.av (ev σ x) e sz cs)) (hf : Flat r I cs l) :
    (execOp (ev σ) ⟨d, .call ⟨.builtin .len, #[x], #[t]⟩, ty, pos, af, g⟩).run P w = .ok (.value (.int .i64 l.length)) w := by
  obtain ⟨⟨A, c, h⟩, _⟩ := av_shape S i hi hf hr hs
  exact x_len ht h
theorem e_iaV {t e sz by' : Nat} (ht : tSl P t = some (e, sz, by')) (hr : r.sz = sz) (hs : Nat.blt 0 sz = true) {x i : Operand} {l : List α} {cs : List Value} {k : IntKind} {j : Int} {y : α} (S : Own I w L) (q : Nat) (hq : L[q]? = some (.av (ev σ x) e sz cs)) (hf : Flat r I cs l) (hi : ev σ i = .int k j) (hy : lat l j = some y) :
    ∃ b c' c, ev σ x = .slice (some ⟨b, 0, none⟩) l.length c ∧ r.rep I c' y ∧ (∀ p u, c'[p]? = some u → cs[j.toNat * sz + p]? = some u) ∧
      ∀ w, (execOp (ev σ) ⟨d, .indexAddr t x i, ty, pos, af, g⟩).run P w = .ok (.value (.pointer (some ⟨b, j.toNat * sz, none⟩))) w := by
  obtain ⟨h0, h1, h2⟩ := lat_ok hy
  obtain ⟨_, h3⟩ := av_shape S q hq hf hr hs
  obtain ⟨b, c, hv, _⟩ := h3 (fun e => by rw [e] at h2; simp at h2)
  obtain ⟨c', h4, h5⟩ := hf.at h2
  rw [hr] at h5
  refine ⟨b, c', c, hv, h4, h5, fun w => ?_⟩
  have := x_ia (P := P) (w := w) (d := d) (ty := ty) (pos := pos) (af := af) (g := g) ht hv hi h0 (by exact_mod_cast h1)
  rw [Nat.zero_add] at this
  exact this
theorem o_iaV {t e sz by' : Nat} (ht : tSl P t = some (e, sz, by')) (hr : r.sz = sz) (hs : Nat.blt 0 sz = true) {x i : Operand} {l : List α} {cs : List Value} {k : IntKind} {j : Int} {y : α} (S : Own I w L) (q : Nat) (hq : L[q]? = some (.av (ev σ x) e sz cs)) (hf : Flat r I cs l) (hi : ev σ i = .int k j) (hy : lat l j = some y)
    (h : ∀ b c' c, ev σ x = .slice (some ⟨b, 0, none⟩) l.length c → r.rep I c' y → (∀ p u, c'[p]? = some u → cs[j.toNat * sz + p]? = some u) → K (σ.put d (.pointer (some ⟨b, j.toNat * sz, none⟩))) w) : OW P ⟨d, .indexAddr t x i, ty, pos, af, g⟩ K σ w := by
  obtain ⟨b, c', c, h1, h2, h3, h4⟩ := e_iaV (P := P) (d := d) (ty := ty) (pos := pos) (af := af) (g := g) ht hr hs S q hq hf hi hy
  exact OW.val (h4 w) (h b c' c h1 h2 h3)
theorem Own.loadV {v : Value} {T sz : Nat} {cs : List Value} {b n c : Nat} (S : Own I w L) (i : Nat) (hi : L[i]? = some (.av v T sz cs)) (hv : v = .slice (some ⟨b, 0, none⟩) n c) {k : Nat} {u : Value} (hk : cs[k]? = some u) : w.cell? ⟨b, k, none⟩ = some u := by
  subst hv
  obtain ⟨ho, hsp, hnc, hcm, hb, hcell, hcl, C, hC, hCs, hCt⟩ : 0 = 0 ∧ (none : Option Nat) = none ∧ n ≤ c ∧ c ≤ maxLen ∧ I.blk b = none ∧ (∀ o, I.cell b o = none) ∧ cs.length = n * sz ∧ ∃ C, w.heap[b]? = some (.cells C T (0, 0)) ∧ C.size = c * sz ∧ C.toList.take (n * sz) = cs := S.items _ (List.mem_of_getElem? hi)
  rw [← hCt, List.getElem?_take] at hk
  split at hk
  · simp only [World.cell?, hC]
    simpa using hk
  · cases hk
theorem take_setAt : ∀ (vs : List Value) (C : List Value) (m o : Nat), o + vs.length ≤ m → (setAt C o vs).take m = setAt (C.take m) o vs
  | [], _, _, _, _ => rfl
  | v :: vs, C, m, o, h => by
    simp only [List.length_cons] at h
    rw [setAt, setAt, take_setAt vs _ m (o + 1) (by omega), List.take_set]
theorem Own.storeV {v : Value} {T sz : Nat} {cs : List Value} {b n c : Nat} (S : Own I w L) (i : Nat) (hi : L[i]? = some (.av v T sz cs)) (hv : v = .slice (some ⟨b, 0, none⟩) n c) (k : Nat) (vs : List Value) (hk : k + vs.length ≤ cs.length) (h1 : ∀ u ∈ vs, u.oneCell' = true) :
    ∃ w', (storeCells ⟨b, k, none⟩ vs 0).run P w = .ok () w' ∧ Own I w' (L.set i (.av v T sz (setAt cs k vs))) := by
  have S0 := S.pick i hi
  subst hv
  obtain ⟨ho, hsp, hnc, hcm, hb, hcell, hcl, C, hC, hCs, hCt⟩ : 0 = 0 ∧ (none : Option Nat) = none ∧ n ≤ c ∧ c ≤ maxLen ∧ I.blk b = none ∧ (∀ o, I.cell b o = none) ∧ cs.length = n * sz ∧ ∃ C, w.heap[b]? = some (.cells C T (0, 0)) ∧ C.size = c * sz ∧ C.toList.take (n * sz) = cs := S.items _ (List.mem_of_getElem? hi)
  have hC' : w.heap[b]? = some (.cells C.toList.toArray T (0, 0)) := by simpa using hC
  have hle : n * sz ≤ c * sz := Nat.mul_le_mul_right _ hnc
  have hCl : C.toList.length = c * sz := by simpa using hCs
  obtain ⟨w', r1, r2, r3, r4, r5, r6⟩ := run_storeCells_setAt (P := P) b T vs k 0 C.toList w hC' (by omega) h1
  rw [Nat.add_zero] at r2
  refine ⟨w', r1, (S0.turn (x' := .av (.slice (some ⟨b, 0, none⟩) n c) T sz (setAt cs k vs)) rfl (fun q hq => hq) hcell hb r3 r4 r5 r6 ⟨rfl, rfl, hnc, hcm, hb, hcell, ?_, _, r2, ?_, ?_⟩).perm (perm_set L i _ _ hi)⟩
  · rw [setAt_length]; exact hcl
  · simp only [List.size_toArray, setAt_length]; exact hCl
  · simp only []
    rw [take_setAt vs _ _ _ (by omega), hCt]
theorem Flat.updA : ∀ {l : List α} {cs vs : List Value} {i f : Nat} {x y : α} {c : List Value}, Flat r I cs l → l[i]? = some x → r.rep I c x → (∀ p u, c[p]? = some u → cs[i * r.sz + p]? = some u) → f + vs.length ≤ r.sz → r.rep I (setAt c f vs) y → Flat r I (setAt cs (i * r.sz + f) vs) (l.set i y) := by
  have comm : ∀ (vs pre cs : List Value) (o : Nat), setAt (pre ++ cs) (pre.length + o) vs = pre ++ setAt cs o vs := by
    intro vs
    induction vs with
    | nil => intros; rfl
    | cons v vs ih =>
      intro pre cs o
      rw [setAt, setAt, List.set_append_right _ _ (by omega), show pre.length + o - pre.length = o by omega, show pre.length + o + 1 = pre.length + (o + 1) by omega, ih]
  have left : ∀ (vs c rest : List Value) (o : Nat), o + vs.length ≤ c.length → setAt (c ++ rest) o vs = setAt c o vs ++ rest := by
    intro vs
    induction vs with
    | nil => intros; rfl
    | cons v vs ih =>
      intro c rest o h
      simp only [List.length_cons] at h
      rw [setAt, setAt, List.set_append_left _ _ (by omega), ih _ _ _ (by simp; omega)]
  intro l
  induction l with
  | nil => intro cs vs i f x y c _ h; simp at h
  | cons z zs ih =>
    intro cs vs i f x y c hf hx hr hc hl hy
    obtain ⟨c0, ds, rfl, h1, h2⟩ := hf
    have hl0 := r.len h1
    have hlc := r.len hr
    cases i with
    | zero =>
      simp only [Nat.zero_mul, Nat.zero_add] at hc ⊢
      simp only [List.getElem?_cons_zero, Option.some.injEq] at hx
      subst hx
      have he : c = c0 := by
        apply List.ext_getElem?
        intro p
        rcases Nat.lt_or_ge p c.length with hp | hp
        · have h3 := hc p c[p] (List.getElem?_eq_getElem hp)
          rw [List.getElem?_append_left (by omega)] at h3
          rw [h3, List.getElem?_eq_getElem hp]
        · rw [List.getElem?_eq_none hp, List.getElem?_eq_none (by omega)]
      subst he
      rw [left _ _ _ _ (by omega), List.set_cons_zero]
      exact ⟨_, ds, rfl, hy, h2⟩
    | succ i =>
      simp only [List.getElem?_cons_succ] at hx
      rw [List.set_cons_succ]
      have e : (i + 1) * r.sz + f = c0.length + (i * r.sz + f) := by rw [hl0, Nat.add_mul]; omega
      rw [e, comm]
      refine ⟨c0, _, rfl, h1, ih h2 hx hr (fun p u hp => ?_) hl hy⟩
      have h3 := hc p u hp
      rw [show (i + 1) * r.sz + p = c0.length + (i * r.sz + p) by rw [hl0, Nat.add_mul]; omega] at h3
      rw [List.getElem?_append_right (by omega)] at h3
      rw [← h3]; congr 1; omega
theorem o_stV {t : TypeId} (ht : tOne P t = true) {e sz : Nat} {cs c' : List Value} {l : List α} {x z : Operand} {b n c k f : Nat} {j : Int} {v : Value} {y y' : α} (hr : r.sz = sz) (S : Own I w L) (i : Nat) (hi : L[i]? = some (.av v e sz cs)) (hv : v = .slice (some ⟨b, 0, none⟩) n c) (hf : Flat r I cs l) (hy : lat l j = some y)
    (hrep : r.rep I c' y) (hc : ∀ p u, c'[p]? = some u → cs[j.toNat * sz + p]? = some u) (hk : k = j.toNat * sz + f) (hfs : Nat.blt f sz = true)
    (hx : ev σ x = .pointer (some ⟨b, k, none⟩)) (h1 : (ev σ z).oneCell' = true) (hrep' : r.rep I (setAt c' f [ev σ z]) y')
    (h : ∀ w' cs', Own I w' (L.set i (.av v e sz cs')) → Flat r I cs' (l.set j.toNat y') → K (σ.put d undef) w') : OW P ⟨d, .store t x z, ty, pos, af, g⟩ K σ w := by
  subst hr
  subst hk
  obtain ⟨h0, h2, h3⟩ := lat_ok hy
  have hfs' : f + 1 ≤ r.sz := Nat.le_of_ble_eq_true hfs
  have hbound : j.toNat * r.sz + f + 1 ≤ cs.length := by
    rw [hf.length]
    have h4 : j.toNat + 1 ≤ l.length := by omega
    have h5 := Nat.mul_le_mul_right r.sz h4
    rw [Nat.add_mul] at h5; omega
  obtain ⟨w', r1, r2⟩ := S.storeV (P := P) i hi hv (j.toNat * r.sz + f) [ev σ z] hbound (fun u hu => by simp at hu; subst hu; exact h1)
  refine OW.unit (w' := w') ?_ (h w' _ r2 (Flat.updA hf h3 hrep hc hfs' hrep'))
  simp [execOp, Instr.storeAt, hx, Instr.sureAddr, storeVar, cells_one h1, tOne_spec ht, r1]
theorem o_stVA {t m : TypeId} (ht : tAg P t = some m) {e sz : Nat} {cs c' vs : List Value} {l : List α} {x z : Operand} {b n c k f : Nat} {j : Int} {v : Value} {y y' : α} (hr : r.sz = sz) (S : Own I w L) (i : Nat) (hi : L[i]? = some (.av v e sz cs)) (hv : v = .slice (some ⟨b, 0, none⟩) n c) (hf : Flat r I cs l) (hy : lat l j = some y)
    (hrep : r.rep I c' y) (hc : ∀ p u, c'[p]? = some u → cs[j.toNat * sz + p]? = some u) (hk : k = j.toNat * sz + f)
    (hx : ev σ x = .pointer (some ⟨b, k, none⟩)) (hz : ev σ z = .agg vs.toArray) (hn : vs.length = m) (hfs : Nat.ble (f + vs.length) sz = true) (h1 : ∀ u ∈ vs, u.oneCell' = true) (hrep' : r.rep I (setAt c' f vs) y')
    (h : ∀ w' cs', Own I w' (L.set i (.av v e sz cs')) → Flat r I cs' (l.set j.toNat y') → K (σ.put d undef) w') : OW P ⟨d, .store t x z, ty, pos, af, g⟩ K σ w := by
  subst hr
  subst hk
  obtain ⟨h0, h2, h3⟩ := lat_ok hy
  have hfs' : f + vs.length ≤ r.sz := Nat.le_of_ble_eq_true hfs
  have hbound : j.toNat * r.sz + f + vs.length ≤ cs.length := by
    rw [hf.length]
    have h4 : j.toNat + 1 ≤ l.length := by omega
    have h5 := Nat.mul_le_mul_right r.sz h4
    rw [Nat.add_mul] at h5; omega
  obtain ⟨k1, k2⟩ := tAg_spec (P := P) (w := w) ht
  obtain ⟨w', r1, r2⟩ := S.storeV (P := P) i hi hv (j.toNat * r.sz + f) vs hbound h1
  refine OW.unit (w' := w') ?_ (h w' _ r2 (Flat.updA hf h3 hrep hc hfs' hrep'))
  simp [execOp, Instr.storeAt, hx, Instr.sureAddr, storeVar, hz, Value.cells, hn, k2, r1]
end
end Sp
namespace Sp
open Go Go.RowKit
section
variable {P : Program} {σ : Env} {w : World} {I : IMem} {L : List It} {K : Env → World → Prop} {α : Type} {r : RTy α} {n : Nat}
variable {d : Option Nat} {ty : TypeId} {pos : String} {af : Array Edge} {g : Option (Nat × Bool)}
theorem Own.newAv (S : Own I w L) {T sz len ca : Nat} {cs : List Value} {C : Array Value} {wn : World} (hB : Below w.heap.size w wn) (hC : wn.heap[w.heap.size]? = some (.cells C T (0, 0))) (hl : len ≤ ca) (hm : ca ≤ maxLen) (hcs : cs.length = len * sz) (hCs : C.size = ca * sz) (ht : C.toList.take (len * sz) = cs) :
    Own I wn (.av (.slice (some ⟨w.heap.size, 0, none⟩) len ca) T sz cs :: L) := by
  have S1 := S.below hB
  obtain ⟨f1, f2, f3⟩ := S.fresh
  refine ⟨S1.cell, S1.blk, S1.os, S1.out, S1.tape, fun y hy => ?_, List.pairwise_cons.2 ⟨fun y hy b hb hyb => ?_, S1.apart⟩⟩
  · rcases List.mem_cons.1 hy with rfl | hy
    · exact ⟨rfl, rfl, hl, hm, f1, f2, hcs, C, hC, hCs, ht⟩
    · exact S1.items y hy
  · obtain rfl : b = _ := hb
    exact f3 y hy hyb
theorem o_appV {t t2 e sz by' : Nat} {z : List Value} (ht : tSl P t = some (e, sz, by')) (ht2 : t2 = t) (hz : tZ P e = some z) (hr : r.sz = sz) (hs : Nat.blt 0 sz = true) {x y : Operand} {v : Value} {l l2 m : List α} {cs : List Value}
    (S : Own I w L) (i : Nat) (hi : L[i]? = some (.av v e sz cs)) (hx : ev σ x = v) (hf : Flat r I cs l) (h2 : SlR r I (ev σ y) l2) (hm : app by' l l2 = some m)
    (h : ∀ v' w' cs', Own I w' (L.set i (.av v' e sz cs')) → Flat r I cs' m → K (σ.put d v') w') : OW P ⟨d, .call ⟨.builtin .append, #[x, y], #[t, t2]⟩, ty, pos, af, g⟩ K σ w := by
  obtain ⟨hl, h63, rfl⟩ := app_ok hm
  subst ht2
  subst hr
  have hs' : 0 < r.sz := by have := Nat.le_of_ble_eq_true hs; omega
  obtain ⟨hu, q, hq, hsz, hby⟩ := tSl_spec ht
  obtain ⟨q', zv, hq', hz1, hz2, hz3, hz4⟩ := tZ_spec (P := P) (w := w) hz
  obtain rfl : q = q' := Option.some.inj (hq.symm.trans hq')
  subst hby
  obtain ⟨A2, c2, hv2⟩ := h2.sl
  rw [hv2] at h2
  have S0 := S.pick i hi
  have hok := S0.items _ (List.mem_cons_self ..)
  obtain ⟨ds, _, hnd, hdm, hdl, hfl2, hda⟩ := h2.cells
  have hcl := hf.length
  have hfin : Flat r I (cs ++ ds) (l ++ l2) := Flat.append hfl2 hf
  have fin : ∀ (v' : Value) (w' : World) (cs' : List Value), (Builtin.append_ #[t2, t2] ty #[v, .slice A2 l2.length c2]).run P w = .ok v' w' → Own I w' (.av v' e r.sz cs' :: L.eraseIdx i) → Flat r I cs' (l ++ l2) →
      OW P ⟨d, .call ⟨.builtin .append, #[x, y], #[t2, t2]⟩, ty, pos, af, g⟩ K σ w := by
    intro v' w' cs' hrun hS hrep
    refine OW.val (v := v') (w' := w') ?_ (h v' w' cs' (hS.perm (perm_set L i _ _ hi)) hrep)
    simp only [execOp, resolve, invoke, builtin, Sem.run_bind, Sem.run_pure, Result.andThen_ok, List.map_toArray, List.map_cons, List.map_nil, hx, hv2, hrun]
  have hsmall : l.length + l2.length ≤ 9223372036854775807 := by simp only [maxLen] at h63; omega
  have hzs : zv.cells.size = r.sz := hz3.trans hsz
  have hshape := av_shape S i hi hf rfl hs
  obtain ⟨⟨A, c, rfl⟩, hcell⟩ := hshape
  by_cases hm0 : l2 = []
  · subst hm0
    have hds : ds = [] := List.eq_nil_of_length_eq_zero (by simpa using hdl)
    subst hds
    have hroom : l.length ≤ c := by
      cases A with
      | none => obtain ⟨h0, _, _⟩ : l.length = 0 ∧ c = 0 ∧ cs = [] := hok; omega
      | some a => exact hok.2.2.1
    refine fin (.slice A l.length c) w cs ?_ S0 (by simpa using hf)
    cases A2 <;> cases A <;> simp [Builtin.append_, run_underlying hu, Go.sizeOf, typeInfo, hq, Builtin.lenOf, hroom, Builtin.firstCells, loadCells, loadCellsFrom, storeCells]
  · have hmp : 0 < l2.length := List.length_pos_iff.2 hm0
    have hdne : ds ≠ [] := fun e => by
      rw [e] at hdl
      have := Nat.mul_pos hmp hs'
      simp at hdl; omega
    obtain ⟨a2, rfl, hsp2, hc2⟩ := hda.resolve_left hdne
    have hn2 : ∀ j u, ds[j]? = some u → w.cell? (a2.add j) = some u := by
      intro j u hj
      obtain ⟨b, o, s⟩ := a2
      simp only at hsp2
      subst hsp2
      rw [addr_add]
      exact S.cell _ _ _ (hc2 j u hj)
    have hdl' : ds.length = l2.length * q.size := by rw [hdl, hsz]
    have newrow : ∀ (old : Nat) (ca : Nat), ca = grownCap w (l.length + l2.length) old e →
        (Builtin.append_ #[t2, t2] ty #[.slice A l.length c, .slice (some a2) l2.length c2]).run P w = .ok (.slice (some ⟨w.heap.size, 0, none⟩) (l.length + l2.length) ca) (w.drew.alloc (.cells (cs.toArray ++ ds.toArray ++ Builtin.zeroCells zv.cells (ca - (l.length + l2.length))) e)) →
        OW P ⟨d, .call ⟨.builtin .append, #[x, y], #[t2, t2]⟩, ty, pos, af, g⟩ K σ w := by
      intro old ca hca hrun
      have hge : l.length + l2.length ≤ ca := by rw [hca]; exact grownCap_ge w _ old e
      have hcm' : ca ≤ maxLen := by rw [hca]; exact grownCap_le_maxLen w _ old e h63
      refine fin _ _ (cs ++ ds) hrun ?_ hfin
      refine S0.drop.newAv ((Below.refl _ _).drew.alloc (by simp) _) (heap_new w.drew _) hge hcm' (by rw [List.length_append, hcl, hdl, Nat.add_mul]) ?_ ?_
      · simp only [Array.size_append, List.size_toArray, size_zeroCells, hzs, hcl, hdl, ← Nat.add_mul]
        congr 1
        omega
      · simp only [Array.toList_append, List.append_assoc]
        rw [← List.append_assoc]
        apply List.take_left'
        rw [List.length_append, hcl, hdl, ← Nat.add_mul]
    cases A with
    | none =>
      obtain ⟨hn0, hc0, hcs0⟩ : l.length = 0 ∧ c = 0 ∧ cs = [] := hok
      subst hc0
      have hl0 : l = [] := List.eq_nil_of_length_eq_zero hn0
      subst hl0
      subst hcs0
      refine newrow 0 _ rfl ?_
      have hrr := run_append_nil (P := P) w t2 ty e q zv hu hq hz1 a2 l2.length c2 ds hdl' hn2 hmp (by simp at hsmall; omega) (by simp at hl; omega)
      simpa using hrr
    | some a =>
      obtain ⟨ho, hsp, hnc, hcm, hb, hcell', hcl', C, hC, hCs, hCt⟩ : a.off = 0 ∧ a.spot = none ∧ l.length ≤ c ∧ c ≤ maxLen ∧ I.blk a.block = none ∧ (∀ o, I.cell a.block o = none) ∧ cs.length = l.length * r.sz ∧ ∃ C, w.heap[a.block]? = some (.cells C e (0, 0)) ∧ C.size = c * r.sz ∧ C.toList.take (l.length * r.sz) = cs := hok
      obtain ⟨b, o, s⟩ := a
      simp only at ho hsp hb hcell' hC
      subst ho
      subst hsp
      by_cases hroom : l.length + l2.length ≤ c
      · have hfit : l.length * q.size + ds.length ≤ C.size := by rw [hdl', hsz, hCs, ← Nat.add_mul]; exact Nat.mul_le_mul_right _ hroom
        have hrun := run_append_room (P := P) w t2 ty e q hu hq b l.length c C hC a2 l2.length c2 ds hdl' hn2 hfl2.one hroom hfit
        rw [hsz] at hrun hfit
        have hCl : C.toList.length = c * r.sz := by simpa using hCs
        have hnew := setRow_heap w b C (C.toList.take (l.length * r.sz) ++ ds ++ C.toList.drop (l.length * r.sz + ds.length)).toArray e (0, 0) hC
        refine fin _ _ (cs ++ ds) hrun ?_ hfin
        refine S0.turn (b := b) rfl (fun k hk => hk) hcell' hb (fun k hk => setRow_other w b k _ hk) rfl rfl rfl ⟨rfl, rfl, hroom, hcm, hb, hcell', by rw [List.length_append, hcl, hdl, Nat.add_mul], _, hnew, ?_, ?_⟩
        · simp only [List.size_toArray, List.length_append, List.length_take, List.length_drop]
          omega
        · simp only [hCt]
          apply List.take_left'
          rw [List.length_append, hcl, hdl, ← Nat.add_mul]
      · refine newrow c _ rfl ?_
        exact run_append_grow (P := P) w t2 ty e q zv hu hq hz1 ⟨b, 0, none⟩ l.length c cs (by rw [hcl, hsz]) (fun j u hj => by rw [addr_add, Nat.zero_add]; exact S.loadV i hi rfl hj) a2 l2.length c2 ds hdl' hn2 (by omega) (by omega) (growslice_fits (by omega) hl)
theorem av_one {v : Value} {T sz : Nat} {cs : List Value} (S : Own I w L) (i : Nat) (hi : L[i]? = some (.av v T sz cs)) : v.oneCell' = true := by
  have hok := S.items _ (List.mem_of_getElem? hi)
  cases v <;> first | rfl | exact hok.elim
def made {α : Type} (by' : Nat) (x : α) (j : Int) : Option (List α) := if 0 ≤ j ∧ j * by' ≤ 140737488355328 ∧ j ≤ maxLen then some (List.replicate j.toNat x) else none
theorem Flat.rep {x : α} {z : List Value} (h : r.rep I z x) : ∀ n, Flat r I ((List.replicate n z).flatten) (List.replicate n x)
  | 0 => rfl
  | n + 1 => by rw [List.replicate_succ, List.flatten_cons, List.replicate_succ]; exact ⟨z, _, rfl, h, Flat.rep h n⟩
theorem o_mk {t e sz by' : Nat} {z : List Value} (ht : tSl P t = some (e, sz, by')) (hz : tZ P e = some z) (hr : r.sz = sz) (hs : Nat.blt 0 sz = true) (hb2 : Nat.ble by' 281474976710656 = true) {a : Operand} {k k' : IntKind} {b : Operand} {j : Int} {x0 : α} {m : List α} (ha : ev σ a = .int k j) (hb : ev σ b = .int k' j) (hm : made by' x0 j = some m) (hrep : r.rep I z x0)
    (S : Own I w L) (h : ∀ v w' cs, Own I w' (.av v e sz cs :: L) → Flat r I cs m → K (σ.put d v) w') : OW P ⟨d, .makeSlice t a b, ty, pos, af, g⟩ K σ w := by
  have a2 : 0 < sz := Nat.le_of_ble_eq_true hs
  unfold made at hm
  split at hm
  · rename_i hj
    obtain ⟨h0, h1, h2⟩ := hj
    obtain rfl := Option.some.inj hm
    obtain ⟨hu, q, hq, hsz, hby⟩ := tSl_spec ht
    obtain ⟨q', zv, hq', hz1, hz2, hz3, hz4⟩ := tZ_spec (P := P) (w := w) hz
    obtain rfl : q = q' := Option.some.inj (hq.symm.trans hq')
    subst hby
    subst hr
    have hzl : z.length = r.sz := by rw [← hz2, ← hsz, ← hz3]; simp
    obtain ⟨p, rfl⟩ : ∃ p : Nat, j = p := ⟨j.toNat, by omega⟩
    have hp : p ≤ 9223372036854775807 := by simp only [maxLen] at h2; omega
    have hwrap : IntKind.i64.wrap (p : Int) = p := by
      simp only [IntKind.wrap, IntKind.bits, IntKind.signed]
      simp
      omega
    have hlarge : ¬ ((q.bytes : Int) * (p : Int) > 2 ^ 48) := by
      have : (q.bytes : Int) * (p : Int) = (p : Int) * q.bytes := Int.mul_comm _ _
      omega
    have hflat : ((List.replicate p z).flatten).length = p * r.sz := by simp [hzl]
    have hzz := zeros_eq zv z hz2 (by omega) p
    rw [hzl] at hzz
    have hrun : (execOp (ev σ) ⟨d, .makeSlice t a b, ty, pos, af, g⟩).run P w = .ok (.value (.slice (some ⟨w.heap.size, 0, none⟩) p p)) (w.alloc (.cells ((List.replicate p z).flatten).toArray e)) := by
      have hti : (typeInfo e).run P w = .ok q w := by simp [typeInfo, hq]
      have hsz' : (Go.sizeOf e).run P w = .ok r.sz w := by simp [Go.sizeOf, typeInfo, hq, hsz]
      have hneg : ¬ ((p : Int) < 0) := by omega
      simp only [execOp, Instr.makeSlice, ha, hb, asInt, asIntOf, Sem.run_bind, Sem.run_pure, Result.andThen_ok, und_run hu, hti, hwrap]
      simp only [hneg, hlarge, decide_false, Bool.false_or, Bool.or_false, Int.lt_irrefl, gt_iff_lt, Bool.false_eq_true, if_false]
      by_cases hp0 : p = 0
      · subst hp0
        simp [newRow, hsz']
        exact congrArg (fun c => w.alloc (Obj.cells c e)) (by apply Array.ext'; simp)
      · have hne : ¬ (p * r.sz = 0) := by
          have := Nat.mul_pos (Nat.pos_of_ne_zero hp0) a2
          omega
        simp only [run_askRoom, Result.andThen_ok, hsz', Int.toNat_natCast, hne, if_false, Sem.run_bind, hz4, Sem.run_pure, hzz]
        simp [newRow]
    refine OW.val hrun (h _ _ _ (S.newAv (below_alloc w _) (heap_new w _) (Nat.le_refl _) (by simp only [maxLen]; omega) hflat (by simp [hzl]) ?_) (Flat.rep hrep p))
    simp only []
    rw [← hflat, List.take_length]
  · cases hm
theorem e_iaVD {S' : World → Prop} {t e sz by' : Nat} (ht : tSl P t = some (e, sz, by')) (hr : r.sz = sz) (hs : Nat.blt 0 sz = true) {x i : Operand} {l : List α} {cs : List Value} {k : IntKind} {j : Int} {y : α} (S : Own I w L) (q : Nat) (hq : L[q]? = some (.av (ev σ x) e sz cs)) (hf : Flat r I cs l) (hi : ev σ i = .int k j) (hy : lat l j = some y) :
    ∃ p, (∃ b c' c, p = .pointer (some ⟨b, j.toNat * sz, none⟩) ∧ ev σ x = .slice (some ⟨b, 0, none⟩) l.length c ∧ r.rep I c' y ∧ (∀ p u, c'[p]? = some u → cs[j.toNat * sz + p]? = some u)) ∧
      ∀ w, S' w → (execOp (ev σ) ⟨d, .indexAddr t x i, ty, pos, af, g⟩).run P w = .ok (.value p) w := by
  obtain ⟨b, c', c, h1, h2, h3, h4⟩ := e_iaV (P := P) (d := d) (ty := ty) (pos := pos) (af := af) (g := g) ht hr hs S q hq hf hi hy
  exact ⟨_, ⟨b, c', c, rfl, h1, h2, h3⟩, fun w _ => h4 w⟩
theorem x_lenVD {t e sz by' : Nat} (ht : tSl P t = some (e, sz, by')) (hr : r.sz = sz) (hs : Nat.blt 0 sz = true) {x : Operand} {l : List α} {cs : List Value} (S : Own I w L) (i : Nat) (hi : L[i]? = some (.av (ev σ x) e sz cs)) (hf : Flat r I cs l) (w' : World) :
    (execOp (ev σ) ⟨d, .call ⟨.builtin .len, #[x], #[t]⟩, ty, pos, af, g⟩).run P w' = .ok (.value (.int .i64 l.length)) w' := by
  obtain ⟨⟨A, c, h⟩, _⟩ := av_shape S i hi hf hr hs
  exact x_len ht h
theorem x_idxG {t n e sz : Nat} (ht : tAr P t = some (n, e, sz)) (he : tSc P e = true) (hsz : sz = 1) {x i : Operand} {l : List Int} {k k' : IntKind} {j c : Int} (hx : ev σ x = .agg (l.map (Value.int k)).toArray) (hi : ev σ i = .int k' j) (hn : l.length = n) (hc : lat l j = some c) :
    (execOp (ev σ) ⟨d, .index t x i, ty, pos, af, g⟩).run P w = .ok (.value (.int k c)) w := by
  obtain ⟨h0, h1, h2⟩ := lat_ok hc
  refine x_idxA (v := .int k c) ht he hsz hx hi h0 (by omega) ?_
  simp [h2]
theorem x_bldA {t len e sz : Nat} {z cs : List Value} (ht : tAr P t = some (len, e, sz)) (hz : tZ P t = some z) {parts : Array (Nat × Operand)} {ps : List (Nat × Value)} {qs : List (Nat × List Value)}
    (he : parts.toList.map (fun p => (p.1, ev σ p.2)) = ps) (hq : PC ps qs) (hf : fillL (fun i => some (i * sz, sz)) z qs = some cs) :
    (execOp (ev σ) ⟨d, .build t parts, ty, pos, af, g⟩).run P w = .ok (.value (.agg cs.toArray)) w := by
  obtain ⟨i, v, h1, h2, h3, h4, h5⟩ := tZ_spec (P := P) (w := w) hz
  obtain ⟨hu, q, hq2, hsz⟩ := tAr_spec ht
  subst he
  have hfill := fill_of hq z cs hf
  have ev1 : (parts.map fun (p : Nat × Operand) => (p.1, ev σ p.2)).toList = parts.toList.map (fun p => (p.1, ev σ p.2)) := by simp
  have hz' : v.cells = z.toArray := by rw [← h3]
  have hsz' : (Go.sizeOf e).run P w = .ok sz w := by simp [Go.sizeOf, typeInfo, hq2, hsz]
  simp only [execOp, Instr.build, Sem.run_bind, h5, Result.andThen_ok, und_run hu, hsz', ev1, hz', hfill]
  simp
end
end Sp
namespace Sp
open Go Go.RowKit
section
variable {P : Program} {σ : Env} {w : World} {I : IMem} {L : List It} {K : Env → World → Prop} {α : Type} {r : RTy α} {n : Nat}
variable {d : Option Nat} {ty : TypeId} {pos : String} {af : Array Edge} {g : Option (Nat × Bool)}
theorem AQ.pureE {A : Array Oper} {fuel : Nat} {O : Obl} {l : Array Bool} (i : Nat) {o : Oper} {X : Value → Prop} (ho : at? n A i = some o)
    (hs : Region.noSelect A = true) (hf : Region.free .any A l i = true) (hr : (Region.ready .any A l).contains i = true)
    (hg : gOK A σ o.guard = true) (hO : Hold O w) (hx : ∃ v, X v ∧ ∀ w, True → (execOp (ev σ) o).run P w = .ok (.value v) w)
    (h : ∀ v, X v → AQ P n A K fuel O (l.setIfInBounds i true) (σ.put o.dst v) w) : AQ P n A K (fuel + 1) O l σ w := by
  obtain ⟨v, h1, h2⟩ := hx
  exact AQ.pure i ho hs hf hr hg hO (fun w => h2 w trivial) (h v h1)
theorem Stab.loadV {Ls : List It} {v : Value} {T sz : Nat} {cs : List Value} {b n c : Nat} (h : Stab I Ls w) (i : Nat) (hi : Ls[i]? = some (.av v T sz cs)) (hv : v = .slice (some ⟨b, 0, none⟩) n c) {k : Nat} {u : Value} (hk : cs[k]? = some u) : w.cell? ⟨b, k, none⟩ = some u := by
  obtain ⟨J, L', _, S⟩ := h
  exact S.loadV i (by rw [List.getElem?_append_left (List.getElem?_eq_some_iff.1 hi).1]; exact hi) hv hk
theorem Own.nil_av (S : Own I w L) (T sz : Nat) : Own I w (.av (.slice none 0 0) T sz [] :: L) :=
  ⟨S.cell, S.blk, S.os, S.out, S.tape, fun y hy => by
    rcases List.mem_cons.1 hy with rfl | hy
    · exact ⟨rfl, rfl, rfl⟩
    · exact S.items y hy, List.pairwise_cons.2 ⟨fun _ _ _ hb => hb.elim, S.apart⟩⟩
theorem Flat.nil' (r : RTy α) (I : IMem) : Flat r I [] [] := rfl
theorem PtR.mk {b o : Nat} {cs : List Value} {x : α} (h : r.rep I cs x) (hc : At I b o cs) : PtR r I (.pointer (.some ⟨b, o, none⟩)) (.some x) := ⟨b, o, cs, rfl, h, hc⟩
theorem PtR.nil (r : RTy α) (I : IMem) : PtR r I (.pointer none) none := rfl
end
end Sp
namespace Sp
open Go Go.RowKit
section
variable {P : Program} {σ : Env} {w : World} {n : Nat}
theorem yielded_u {A : Array Oper} {a : Act} {j t : Nat} (ha : Rel n a σ) (ht : (A[j]?).bind (·.dst) = some t) (hx : σ t = undef) :
    yielded A a.tmps j = none := by
  have h := ha.get t
  rw [hx] at h
  unfold yielded
  rw [ht]
  simp only [obs]
  cases hg : a.tmps[t]? with
  | none => rfl
  | some v => simp [Array.getD_eq_getD_getElem?, hg] at h; subst h; rfl
theorem OK.gu {A : Array Oper} {i j t : Nat} {b : Bool} {d : Option Nat} {op : Op} {ty : TypeId} {pos : String} {af : Array Edge} {K : Env → World → Prop}
    (ho : at? n A i = some ⟨d, op, ty, pos, af, some (j, b)⟩) (ht : (A[j]?).bind (·.dst) = some t) (hx : σ t = undef)
    (h : K (σ.put d undef) w) : OK P n A i K σ w := by
  obtain ⟨h1, h2⟩ := at?_spec ho
  intro a Q ha
  unfold wpOp
  have hw : Region.wanted (⟨d, op, ty, pos, af, some (j, b)⟩ : Oper) (yielded A a.tmps) = false := by
    unfold Region.wanted
    simp only [yielded_u ha ht hx]
    cases b <;> rfl
  simp only [h1, hw, Bool.false_eq_true, if_false]
  exact ⟨_, ha.put h2 _, h⟩
theorem AQ.skipU {A : Array Oper} {K : Env → World → Prop} {fuel : Nat} {O : Obl} {l : Array Bool} (i : Nat) {j t : Nat} {b : Bool} {d : Option Nat} {op : Op} {ty : TypeId} {pos : String} {af : Array Edge}
    (ho : at? n A i = some ⟨d, op, ty, pos, af, some (j, b)⟩)
    (hs : Region.noSelect A = true) (hf : Region.free .any A l i = true) (hr : (Region.ready .any A l).contains i = true)
    (ht : (A[j]?).bind (·.dst) = some t) (hxx : σ t = undef) (hO : Hold O w)
    (h : AQ P n A K fuel O (l.setIfInBounds i true) (σ.put d undef) w) : AQ P n A K (fuel + 1) O l σ w := by
  obtain ⟨h1, h2⟩ := at?_spec ho
  intro a Q hK hp ha
  refine wpD_take (S := fun _ => True) h1 hs hf hr (fun c a w hq => absurd hq (hp c _ w)) (.inr ⟨?_, rfl⟩) trivial hO.all (wpD_add (h _ Q hK hp (ha.put h2 undef)))
  unfold Region.wanted
  simp only [yielded_u ha ht hxx]
  cases b <;> rfl
end
end Sp
