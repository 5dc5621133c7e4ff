/-
  WHAT IS OWNED, CHOSEN ANEW; results; the signs of a text one by one; tables.
-/
import Derived.Test.YtkkflfmonidepaaDoorEng6
import Derived.Laws.RangeString
namespace Sp
open Go Go.RowKit

section
variable {P : Program} {σ : Env} {w : World} {I : IMem} {L : List It} {K : Env → World → Prop}
variable {d : Option Nat} {ty : TypeId} {pos : String} {af : Array Edge} {g : Option (Nat × Bool)}

theorem apart_at (S : Own I w L) {i j : Nat} {x y : It} (hi : L[i]? = some x) (hj : L[j]? = some y) (h : i ≠ j) : apartIt x y := by
  have hp := List.pairwise_iff_getElem.1 S.apart
  obtain ⟨h1, rfl⟩ := List.getElem?_eq_some_iff.1 hi
  obtain ⟨h2, rfl⟩ := List.getElem?_eq_some_iff.1 hj
  rcases Nat.lt_or_gt_of_ne h with h | h
  · exact hp i j h1 h2 h
  · exact (hp j i h2 h1 h).symm

/-- Are numbers all different, and below n? -/
def allDiff (n : Nat) : List Nat → Bool
  | [] => true
  | i :: is => Nat.blt i n && is.all (fun j => !Nat.beq i j) && allDiff n is

theorem sel_apart (S : Own I w L) (n : Nat) : ∀ (is : List Nat), allDiff n is = true → (is.filterMap (fun i => L[i]?)).Pairwise apartIt ∧ (∀ x ∈ is.filterMap (fun i => L[i]?), ∃ i ∈ is, L[i]? = some x) ∧ ∀ i ∈ is, i < n
  | [], _ => ⟨List.Pairwise.nil, fun x hx => by simp at hx, fun i hi => by cases hi⟩
  | i :: is, h => by
    simp only [allDiff, Bool.and_eq_true] at h
    obtain ⟨⟨h1, h2⟩, h3⟩ := h
    obtain ⟨k1, k2, k3⟩ := sel_apart S n is h3
    have hlt : i < n := Nat.le_of_ble_eq_true h1
    have hd : ∀ j ∈ is, i ≠ j := fun j hj e => by
      have := List.all_eq_true.1 h2 j hj
      subst e
      simp at this
    refine ⟨?_, ?_, fun j hj => ?_⟩
    · cases hi : L[i]? with
      | none => simp only [List.filterMap_cons, hi]; exact k1
      | some x =>
        simp only [List.filterMap_cons, hi]
        refine List.pairwise_cons.2 ⟨fun y hy => ?_, k1⟩
        obtain ⟨j, hj, hjy⟩ := k2 y hy
        exact apart_at S hi hjy (hd j hj)
    · intro x hx
      rw [List.filterMap_cons] at hx
      cases hi : L[i]? with
      | none =>
        simp only [hi] at hx
        obtain ⟨j, hj, h⟩ := k2 x hx
        exact ⟨j, List.mem_cons_of_mem _ hj, h⟩
      | some y =>
        simp only [hi] at hx
        rcases List.mem_cons.1 hx with rfl | hx
        · exact ⟨i, List.mem_cons_self .., hi⟩
        · obtain ⟨j, hj, h⟩ := k2 x hx
          exact ⟨j, List.mem_cons_of_mem _ hj, h⟩
    · rcases List.mem_cons.1 hj with rfl | hj
      · exact hlt
      · exact k3 j hj

/-- Of the first n items some, in this order; and all behind them. -/
theorem Own.sel (S : Own I w L) (n : Nat) (is : List Nat) (h : allDiff n is = true) : Own I w (is.filterMap (fun i => L[i]?) ++ L.drop n) := by
  obtain ⟨k1, k2, k3⟩ := sel_apart S n is h
  have hd : ∀ x ∈ L.drop n, ∃ j, n ≤ j ∧ L[j]? = some x := fun x hx => by
    obtain ⟨j, hj⟩ := List.mem_iff_getElem?.1 hx
    rw [List.getElem?_drop] at hj
    exact ⟨n + j, by omega, hj⟩
  refine ⟨S.cell, S.blk, S.os, S.out, S.tape, fun x hx => ?_, List.pairwise_append.2 ⟨k1, S.apart.sublist (List.drop_sublist n L), fun x hx y hy => ?_⟩⟩
  · rcases List.mem_append.1 hx with hx | hx
    · obtain ⟨i, _, hi⟩ := k2 x hx
      exact S.items x (List.mem_of_getElem? hi)
    · exact S.items x (List.mem_of_mem_drop hx)
  · obtain ⟨i, hi, hix⟩ := k2 x hx
    obtain ⟨j, hj, hjy⟩ := hd y hy
    exact apart_at S hix hjy (by have := k3 i hi; omega)

/-- What is known less of. -/
theorem Own.weaken {J : IMem} (S : Own J w L) (h : I.le J) : Own I w L := by
  have hn : ∀ b, J.blk b = none → I.blk b = none := fun b hb => by
    cases hi : I.blk b with
    | none => rfl
    | some o => rw [h.blk _ _ hi] at hb; cases hb
  have hc : ∀ b o, J.cell b o = none → I.cell b o = none := fun b o hb => by
    cases hi : I.cell b o with
    | none => rfl
    | some v => rw [h.cell _ _ _ hi] at hb; cases hb
  have ha : ∀ {v : Value} {T sz : Nat} {cs : List Value}, avOk J w v T sz cs → avOk I w v T sz cs := fun {v T sz cs} hk => by
    cases v <;> try exact hk
    rename_i a n c
    cases a with
    | none => exact hk
    | some a =>
      obtain ⟨k1, k2, k3, k4, k5, k6, k7⟩ := hk
      exact ⟨k1, k2, k3, k4, hn _ k5, fun o => hc _ _ (k6 o), k7⟩
  refine ⟨fun b o v hv => S.cell _ _ _ (h.cell _ _ _ hv), fun b o hb => S.blk _ _ (h.blk _ _ hb), S.os.trans h.os, S.out.trans h.out, S.tape.trans h.tape, fun x hx => ?_, S.apart⟩
  have hk := S.items x hx
  cases x with
  | bk b T cs => exact ⟨hk.1, hn _ hk.2.1, fun o => hc _ _ (hk.2.2 o)⟩
  | ob b o => exact ⟨hk.1, hn _ hk.2.1, fun o => hc _ _ (hk.2.2 o)⟩
  | tv v T sz =>
    cases v <;> try exact hk
    rename_i a n c
    cases a with
    | none => exact hk
    | some a =>
      obtain ⟨k1, k2, k3, k4, k5, k6, k7⟩ := hk
      exact ⟨k1, k2, k3, k4, hn _ k5, fun o ho => hc _ _ (k6 o ho), k7⟩
  | av v T sz cs => exact ha hk
  | fam T sz l => exact ⟨fun p hp => ha (hk.1 p hp), hk.2⟩

theorem ld1 {t : TypeId} (ht : tSc P t = true) {a : Addr} {v : Value} (hc : w.cell? a = some v) : (loadVar t a).run P w = .ok v w := by
  simp [loadVar, tSc_spec ht, hc]
theorem ldA {t n : Nat} (ht : tAg P t = some n) {b o : Nat} {cs : List Value} (hc : ∀ j u, cs[j]? = some u → w.cell? ⟨b, o + j, none⟩ = some u) (hn : cs.length = n) : (loadVar t ⟨b, o, none⟩).run P w = .ok (.agg cs.toArray) w := by
  obtain ⟨h4, h5⟩ := tAg_spec (P := P) (w := w) ht
  subst hn
  have hl := run_loadCells_list (P := P) w ⟨b, o, none⟩ cs (fun j u hj => by rw [addr_add]; exact hc j u hj)
  simp [loadVar, h4, h5, hl]

theorem c0 : ∀ v ∈ ([] : List Value), v.oneCell' = true := fun _ h => by cases h
theorem c1 {v : Value} {l : List Value} (h : v.oneCell' = true) (k : ∀ u ∈ l, u.oneCell' = true) : ∀ u ∈ v :: l, u.oneCell' = true := fun u hu => by
  rcases List.mem_cons.1 hu with rfl | hu
  · exact h
  · exact k u hu

/-! ### The signs of a text -/

@[reducible] def runeAt (s : ByteArray) (p : Nat) : Int := ((Utf8.decode s p).1 : Int)
@[reducible] def runeW (s : ByteArray) (p : Nat) : Nat := (Utf8.decode s p).2

theorem o_rng {t : Nat} (ht : tStr P t = true) {x : Operand} {s : ByteArray} (hx : ev σ x = .string s) (S : Own I w L) (h : ∀ b w', Own I w' (.ob b (.stringIter s 0) :: L) → K (σ.put d (.pointer (some ⟨b, 0, none⟩))) w') :
    OW P ⟨d, .range t x, ty, pos, af, g⟩ K σ w := by
  refine OW.val (w' := w.alloc (.stringIter s 0)) ?_ (h _ _ (S.allocO _))
  have := run_range_string (P := P) w t s (tStr_spec ht)
  simp only [execOp, hx, Sem.run_bind, this, Result.andThen_ok, Sem.run_pure]
  rfl

theorem Own.setO {b : Nat} {o o' : Obj} (S : Own I w L) (i : Nat) (hi : L[i]? = some (.ob b o)) : Own I { w with heap := w.heap.setIfInBounds b o' } (L.set i (.ob b o')) := by
  have S0 := S.pick i hi
  obtain ⟨h1, h2, h3⟩ : w.heap[b]? = some o ∧ I.blk b = none ∧ ∀ q, I.cell b q = none := S0.items _ (List.mem_cons_self ..)
  refine (S0.turn (x' := .ob b o') (w' := { w with heap := w.heap.setIfInBounds b o' }) rfl (fun c hc => hc) h3 h2 (fun k hk => ?_) rfl rfl rfl ⟨?_, h2, h3⟩).perm (perm_set L i _ _ hi)
  · simp [Array.getElem?_setIfInBounds, Ne.symm hk]
  · have := (Array.getElem?_eq_some_iff.1 h1).1
    simp [this]

theorem o_nxtT {x : Operand} {b p : Nat} {s : ByteArray} (S : Own I w L) (i : Nat) (hi : L[i]? = some (.ob b (.stringIter s p))) (hx : ev σ x = .pointer (some ⟨b, 0, none⟩)) (hp : p < s.size)
    (h : ∀ w', Own I w' (L.set i (.ob b (.stringIter s (p + runeW s p)))) → K (σ.put d (.tuple #[.bool true, .int .i64 p, .int .i32 (runeAt s p)])) w') : OW P ⟨d, .next x true, ty, pos, af, g⟩ K σ w := by
  obtain ⟨h1, h2, h3⟩ : w.heap[b]? = some (.stringIter s p) ∧ I.blk b = none ∧ ∀ q, I.cell b q = none := S.items _ (List.mem_of_getElem? hi)
  refine OW.val (w' := { w with heap := w.heap.setIfInBounds b (.stringIter s (p + runeW s p)) }) ?_ (h _ (S.setO i hi))
  simp [execOp, hx, Instr.next, getObj, setObj, Sem.run, h1, hp, goInt]

theorem o_nxtF {x : Operand} {b p : Nat} {s : ByteArray} (S : Own I w L) (i : Nat) (hi : L[i]? = some (.ob b (.stringIter s p))) (hx : ev σ x = .pointer (some ⟨b, 0, none⟩)) (hp : ¬ p < s.size)
    (h : K (σ.put d (.tuple #[.bool false])) w) : OW P ⟨d, .next x true, ty, pos, af, g⟩ K σ w := by
  obtain ⟨h1, h2, h3⟩ : w.heap[b]? = some (.stringIter s p) ∧ I.blk b = none ∧ ∀ q, I.cell b q = none := S.items _ (List.mem_of_getElem? hi)
  refine OW.val (w' := w) ?_ h
  simp [execOp, hx, Instr.next, getObj, Sem.run, h1, hp]

/-! ### A table -/

theorem o_idxG {t n e sz : Nat} (ht : tAr P t = some (n, e, sz)) (he : tSc P e = true) (hsz : sz = 1) {x i : Operand} {l : List Int} {k k' : IntKind} {j c : Int} (hx : ev σ x = .agg (l.map (Value.int k)).toArray) (hi : ev σ i = .int k' j) (hn : l.length = n) (hc : lat l j = some c)
    (h : K (σ.put d (.int k c)) w) : OW P ⟨d, .index t x i, ty, pos, af, g⟩ K σ w := by
  obtain ⟨h0, h1, h2⟩ := lat_ok hc
  refine OW.val (x_idxA (v := .int k c) ht he hsz hx hi h0 (by omega) ?_) h
  simp [h2]
theorem o_iaG {t n e sz : Nat} (ht : tAr P t = some (n, e, sz)) (hsz : sz = 1) {x i : Operand} {l : List Int} {k k' : IntKind} {j c : Int} {b : Nat} (hG : At I b 0 (l.map (Value.int k))) (hx : ev σ x = .pointer (some ⟨b, 0, none⟩)) (hi : ev σ i = .int k' j) (hn : l.length = n) (hc : lat l j = some c)
    (h : ∀ o, I.cell b o = some (.int k c) → K (σ.put d (.pointer (some ⟨b, o, none⟩))) w) : OW P ⟨d, .indexAddr t x i, ty, pos, af, g⟩ K σ w := by
  obtain ⟨h0, h1, h2⟩ := lat_ok hc
  refine OW.val (x_iaA ht hx hi h0 (by omega)) (h _ ?_)
  subst hsz
  have := hG j.toNat (.int k c) (by simp [h2])
  simpa using this

end
end Sp
