/-
  THE OPERATIONS ON MEMORY, said of what a call owns.
-/
import Derived.Test.YtkkflfmonidepaaDoorEng3
namespace Sp
open Go Go.RowKit

/-- A type of one cell. -/
def tOne (P : Program) (t : TypeId) : Bool := match P.info? t with
  | some i => Nat.beq i.size 1
  | none => false

theorem tOne_spec {P : Program} {t : TypeId} {w : World} (h : tOne P t = true) : (Go.sizeOf t).run P w = .ok 1 w := by
  unfold tOne at h
  cases hi : P.info? t with
  | none => simp [hi] at h
  | some i =>
    simp only [hi] at h
    simp [Go.sizeOf, typeInfo, hi, Nat.eq_of_beq_eq_true h]

theorem cells_one {v : Value} (h : v.oneCell' = true) : v.cells = #[v] := by
  cases v <;> first | rfl | (simp [Value.oneCell'] at h)

theorem perm_set : ∀ (L : List It) (i : Nat) (x y : It), L[i]? = some x → (y :: L.eraseIdx i).Perm (L.set i y)
  | [], _, _, _, h => by simp at h
  | z :: L, 0, x, y, h => List.Perm.refl _
  | z :: L, i + 1, x, y, h => by
    simp only [List.getElem?_cons_succ] at h
    exact (List.Perm.swap z y _).trans ((perm_set L i x y h).cons z)

section
variable {P : Program} {σ : Env} {w : World} {I : IMem} {L : List It} {K : Env → World → Prop}
variable {d : Option Nat} {ty : TypeId} {pos : String} {af : Array Edge} {g : Option (Nat × Bool)}

theorem Own.storeAt {b : Nat} {T : TypeId} {cs : List Value} (S : Own I w L) (i : Nat) (hi : L[i]? = some (.bk b T cs)) (o : Nat) (vs : List Value) (hl : o + vs.length ≤ cs.length) (h1 : ∀ v ∈ vs, v.oneCell' = true) :
    ∃ w', (storeCells ⟨b, o, none⟩ vs 0).run P w = .ok () w' ∧ Own I w' (L.set i (.bk b T (setAt cs o vs))) := by
  obtain ⟨w', h2, h3⟩ := (S.pick i hi).store (P := P) o vs hl h1
  exact ⟨w', h2, h3.perm (perm_set L i _ _ hi)⟩

/-- A new variable, zero. -/
theorem o_all {e : TypeId} {z : List Value} (hz : tZ P e = some z) (S : Own I w L) (h : ∀ b w', Own I w' (.bk b e z :: L) → K (σ.put d (.pointer (some ⟨b, 0, none⟩))) w') : OW P ⟨d, .alloc e, ty, pos, af, g⟩ K σ w :=
  OW.val (x_all hz) (h _ _ (S.alloc e z))
/-- A new variable that holds one cell. -/
theorem o_box {e : TypeId} {x : Operand} (hv : (ev σ x).oneCell' = true) (S : Own I w L) (h : ∀ b w', Own I w' (.bk b e [ev σ x] :: L) → K (σ.put d (.pointer (some ⟨b, 0, none⟩))) w') : OW P ⟨d, .box e x, ty, pos, af, g⟩ K σ w := by
  refine OW.val x_box (h w.heap.size _ ?_)
  rw [cells_one hv]
  exact S.alloc e [ev σ x]
theorem o_boxA {e : TypeId} {x : Operand} {cs : List Value} (hx : ev σ x = .agg cs.toArray) (S : Own I w L) (h : ∀ b w', Own I w' (.bk b e cs :: L) → K (σ.put d (.pointer (some ⟨b, 0, none⟩))) w') : OW P ⟨d, .box e x, ty, pos, af, g⟩ K σ w := by
  refine OW.val x_box (h w.heap.size _ ?_)
  rw [hx]
  exact S.alloc e cs

/-- One cell is stored. -/
theorem o_st {t : TypeId} (ht : tOne P t = true) (S : Own I w L) (i : Nat) {b o : Nat} {T : TypeId} {cs : List Value} {x y : Operand} (hi : L[i]? = some (.bk b T cs)) (hx : ev σ x = .pointer (some ⟨b, o, none⟩))
    (ho : Nat.blt o cs.length = true) (hy : (ev σ y).oneCell' = true) (h : ∀ w', Own I w' (L.set i (.bk b T (cs.set o (ev σ y)))) → K (σ.put d undef) w') : OW P ⟨d, .store t x y, ty, pos, af, g⟩ K σ w := by
  have ho' : o + 1 ≤ cs.length := Nat.le_of_ble_eq_true ho
  obtain ⟨w', h2, h3⟩ := S.storeAt (P := P) i hi o [ev σ y] ho' (fun v hv => by simp at hv; subst hv; exact hy)
  refine OW.unit (w' := w') ?_ (h w' h3)
  simp [execOp, Instr.storeAt, hx, Instr.sureAddr, storeVar, cells_one hy, tOne_spec ht, h2]
/-- A struct, or an array, is stored. -/
theorem o_stA {t n : TypeId} (ht : tAg P t = some n) (S : Own I w L) (i : Nat) {b o : Nat} {T : TypeId} {cs vs : List Value} {x y : Operand} (hi : L[i]? = some (.bk b T cs)) (hx : ev σ x = .pointer (some ⟨b, o, none⟩))
    (hy : ev σ y = .agg vs.toArray) (hn : vs.length = n) (h1 : ∀ v ∈ vs, v.oneCell' = true) (ho : Nat.ble (o + vs.length) cs.length = true)
    (h : ∀ w', Own I w' (L.set i (.bk b T (setAt cs o vs))) → K (σ.put d undef) w') : OW P ⟨d, .store t x y, ty, pos, af, g⟩ K σ w := by
  have ho' := Nat.le_of_ble_eq_true ho
  obtain ⟨h4, h5⟩ := tAg_spec (P := P) (w := w) ht
  obtain ⟨w', h2, h3⟩ := S.storeAt (P := P) i hi o vs ho' h1
  refine OW.unit (w' := w') ?_ (h w' h3)
  simp [execOp, Instr.storeAt, hx, Instr.sureAddr, storeVar, hy, Value.cells, hn, h5, h2]

theorem Own.loadN {b : Nat} {T : TypeId} {cs : List Value} (S : Own I w L) (i : Nat) (hi : L[i]? = some (.bk b T cs)) (o n : Nat) : ∀ j u, ((cs.drop o).take n)[j]? = some u → w.cell? ⟨b, o + j, none⟩ = some u := by
  intro j u hj
  refine S.load i hi (o + j) ?_
  rw [List.getElem?_take] at hj
  split at hj
  · rw [List.getElem?_drop] at hj; exact hj
  · cases hj
theorem Own.loadW {b : Nat} {T : TypeId} {cs : List Value} (S : Own I w L) (i : Nat) (hi : L[i]? = some (.bk b T cs)) : ∀ j u, cs[j]? = some u → w.cell? ⟨b, 0 + j, none⟩ = some u := by
  intro j u hj
  rw [Nat.zero_add]
  exact S.load i hi j hj
theorem Own.loadI {b o : Nat} {cs : List Value} (S : Own I w L) (hc : ∀ j u, cs[j]? = some u → I.cell b (o + j) = some u) : ∀ j u, cs[j]? = some u → w.cell? ⟨b, o + j, none⟩ = some u :=
  fun j u hj => S.cell _ _ _ (hc j u hj)

/-! ### A list that grows at its end -/

theorem SlR.cells {α : Type} {r : RTy α} {l : List α} {A : Option Addr} {n c : Nat} (h : SlR r I (.slice A n c) l) : ∃ cs, n = l.length ∧ n ≤ c ∧ c ≤ maxLen ∧ cs.length = n * r.sz ∧ Flat r I cs l ∧ (cs = [] ∨ ∃ a, A = some a ∧ a.spot = none ∧ ∀ j u, cs[j]? = some u → I.cell a.block (a.off + j) = some u) := by
  obtain ⟨A', c', cs, e, h2, h3, h4, h5⟩ := h
  obtain ⟨rfl, rfl, rfl⟩ : A = A' ∧ n = l.length ∧ c = c' := by simpa using e
  exact ⟨cs, rfl, h2, h3, h4.length, h4, h5⟩

/-- What 'append' needs of the element's type, and that it is small. -/
theorem o_app {α : Type} {r : RTy α} {t t2 e sz by' : Nat} {z : List Value} (ht : tSl P t = some (e, sz, by')) (ht2 : t2 = t) (hz : tZ P e = some z) (hr : r.sz = sz) (hs : Nat.blt 0 sz = true) {x y : Operand} {v v2 : Value} {l l2 : List α}
    (S : Own I w L) (i : Nat) (hi : L[i]? = some (.tv v e sz)) (hx : ev σ x = v) (hv : SlR r I v l) (hy : ev σ y = v2) (h2 : SlR r I v2 l2) (hl : (l.length + l2.length) * by' ≤ 140737488355328) (h63 : l.length + l2.length ≤ maxLen)
    (h : ∀ v' w' J, I.le J → Own J w' (L.set i (.tv v' e sz)) → SlR r J v' (l ++ l2) → K (σ.put d v') w') : OW P ⟨d, .call ⟨.builtin .append, #[x, y], #[t, t2]⟩, ty, pos, af, g⟩ K σ w := by
  subst ht2
  subst hr
  have hs' : 0 < r.sz := by have := Nat.le_of_ble_eq_true hs; omega
  obtain ⟨hu, q, hq, hsz, hby⟩ := tSl_spec ht
  obtain ⟨q', zv, hq', hz1, hz2, hz3, hz4⟩ := tZ_spec (P := P) (w := w) hz
  obtain rfl : q = q' := Option.some.inj (hq.symm.trans hq')
  subst hby
  obtain ⟨A, c, rfl⟩ := hv.sl
  obtain ⟨A2, c2, rfl⟩ := h2.sl
  have S0 := S.pick i hi
  have hok := S0.items _ (List.mem_cons_self ..)
  obtain ⟨cs, _, hnc, hcm, hcl, hfl, hca⟩ := hv.cells
  obtain ⟨ds, _, hnd, hdm, hdl, hfl2, hda⟩ := h2.cells
  -- the run, whatever it is
  have fin : ∀ (v' : Value) (w' : World) (J : IMem), (Builtin.append_ #[t2, t2] ty #[.slice A l.length c, .slice A2 l2.length c2]).run P w = .ok v' w' → I.le J → Own J w' (.tv v' e r.sz :: L.eraseIdx i) → SlR r J v' (l ++ l2) →
      OW P ⟨d, .call ⟨.builtin .append, #[x, y], #[t2, t2]⟩, ty, pos, af, g⟩ K σ w := by
    intro v' w' J hrun hle hS hrep
    refine OW.val (v := v') (w' := w') ?_ (h v' w' J hle (hS.perm (perm_set L i _ _ hi)) hrep)
    simp only [execOp, resolve, invoke, builtin, Sem.run_bind, Sem.run_pure, Result.andThen_ok, List.map_toArray, List.map_cons, List.map_nil, hx, hy, hrun]
  have hsmall : l.length + l2.length ≤ 9223372036854775807 := by simp only [maxLen] at h63; omega
  have hzs : zv.cells.size = r.sz := hz3.trans hsz
  -- the new cells are there
  have hnews : ∀ a, A2 = some a → ∀ j u, ds[j]? = some u → w.cell? (a.add j) = some u := by
    rintro a rfl j u hj
    rcases hda with rfl | ⟨a', ha, hsp, hc⟩
    · simp at hj
    · obtain rfl := Option.some.inj ha
      obtain ⟨b, o, s⟩ := a
      simp only at hsp
      subst hsp
      rw [addr_add]
      exact S.cell _ _ _ (hc j u hj)
  by_cases hm : l2 = []
  · -- nothing new
    subst hm
    have hds : ds = [] := List.eq_nil_of_length_eq_zero (by simpa using hdl)
    subst hds
    refine fin (.slice A l.length c) w I ?_ (IMem.le.refl I) S0 (by simpa using hv)
    have hroom : l.length ≤ c := hnc
    cases A2 <;> cases A <;> simp [Builtin.append_, run_underlying hu, Go.sizeOf, typeInfo, hq, Builtin.lenOf, hroom, Builtin.firstCells, loadCells, loadCellsFrom, storeCells]
  · have hm0 : 0 < l2.length := List.length_pos_iff.2 hm
    have hdne : ds ≠ [] := fun e => by
      rw [e] at hdl
      have := Nat.mul_pos hm0 hs'
      simp at hdl; omega
    obtain ⟨a2, rfl, hsp2, hc2⟩ := hda.resolve_left hdne
    have hn2 := hnews a2 rfl
    have hdl' : ds.length = l2.length * q.size := by rw [hdl, hsz]
    -- a new array, cells 'olds', in a world one draw on
    have newrow : ∀ (old : Nat) (ca : Nat), ca = grownCap w (l.length + l2.length) old e → old < l.length + l2.length →
        (Builtin.append_ #[t2, t2] ty #[.slice A l.length c, .slice (some a2) l2.length c2]).run P w = .ok (.slice (some ⟨w.heap.size, 0, none⟩) (l.length + l2.length) ca) (w.drew.alloc (.cells (cs.toArray ++ ds.toArray ++ Builtin.zeroCells zv.cells (ca - (l.length + l2.length))) e)) →
        OW P ⟨d, .call ⟨.builtin .append, #[x, y], #[t2, t2]⟩, ty, pos, af, g⟩ K σ w := by
      intro old ca hca _ hrun
      have hge : l.length + l2.length ≤ ca := by rw [hca]; exact grownCap_ge w _ old e
      have hcm' : ca ≤ maxLen := by rw [hca]; exact grownCap_le_maxLen w _ old e h63
      obtain ⟨f1, f2, f3⟩ := S0.fresh
      have hB : Below w.heap.size w (w.drew.alloc (.cells (cs.toArray ++ ds.toArray ++ Builtin.zeroCells zv.cells (ca - (l.length + l2.length))) e)) := (Below.refl _ _).drew.alloc (by simp) _
      have S1 := S0.drop.below hB
      have hC : (w.drew.alloc (.cells (cs.toArray ++ ds.toArray ++ Builtin.zeroCells zv.cells (ca - (l.length + l2.length))) e)).heap[w.heap.size]? = some (.cells (cs.toArray ++ ds.toArray ++ Builtin.zeroCells zv.cells (ca - (l.length + l2.length))) e) := heap_new w.drew _
      have hle : I.le (I.ext w.heap.size 0 (cs ++ ds)) := IMem.le_ext fun o _ => f2 o
      have hsize : (cs.toArray ++ ds.toArray ++ Builtin.zeroCells zv.cells (ca - (l.length + l2.length))).size = ca * r.sz := by
        simp only [Array.size_append, List.size_toArray, size_zeroCells, hzs, hcl, hdl, ← Nat.add_mul]
        congr 1
        omega
      refine fin _ _ (I.ext w.heap.size 0 (cs ++ ds)) hrun hle ?_ ?_
      · refine ⟨fun b o u hu' => ?_, S1.blk, S1.os, S1.out, S1.tape, fun y hy' => ?_, List.pairwise_cons.2 ⟨fun y hy' b hb hyb => ?_, S1.apart⟩⟩
        · simp only [IMem.ext] at hu'
          split at hu'
          · rename_i hbo
            obtain ⟨rfl, _⟩ := hbo
            rw [Nat.sub_zero] at hu'
            have hlt := (List.getElem?_eq_some_iff.1 hu').1
            simp only [World.cell?, hC]
            simp only [Option.isSome_none, Bool.false_eq_true, if_false]
            rw [Array.getElem?_append_left (by simpa using hlt)]
            simpa using hu'
          · exact S1.cell _ _ _ hu'
        · rcases List.mem_cons.1 hy' with rfl | hy'
          · refine ⟨rfl, rfl, hge, hcm', f1, fun o ho => ?_, _, hC, hsize⟩
            simp only [IMem.ext]
            rw [if_pos ⟨trivial, Nat.zero_le _⟩]
            refine List.getElem?_eq_none ?_
            rw [List.length_append, hcl, hdl, ← Nat.add_mul]; omega
          · refine It.ok_same (S1.items y hy') fun b hb => ⟨rfl, rfl, fun o => ?_⟩
            simp only [IMem.ext]
            rw [if_neg]
            rintro ⟨rfl, _⟩
            exact f3 y (List.mem_cons_of_mem _ hy') hb
        · obtain rfl : b = _ := hb
          exact f3 y (List.mem_cons_of_mem _ hy') hyb
      · refine ⟨_, _, cs ++ ds, by rw [List.length_append], by rw [List.length_append]; exact hge, hcm', Flat.append (hfl2.mono hle) (hfl.mono hle), .inr ⟨_, rfl, rfl, fun j u hj => ?_⟩⟩
        simp only [IMem.ext]
        rw [if_pos ⟨trivial, Nat.zero_le _⟩]
        simpa using hj
    cases A with
    | none =>
      obtain ⟨hn0, hc0⟩ : l.length = 0 ∧ c = 0 := hok
      subst hc0
      have hl0 : l = [] := List.eq_nil_of_length_eq_zero hn0
      subst hl0
      have hcs0 : cs = [] := List.eq_nil_of_length_eq_zero (by simpa using hcl)
      subst hcs0
      refine newrow 0 _ rfl (by omega) ?_
      have hr := run_append_nil (P := P) w t2 ty e q zv hu hq hz1 a2 l2.length c2 ds hdl' hn2 hm0 (by simp at hsmall; omega) (by simp at hl; omega)
      simpa using hr
    | some a =>
      obtain ⟨ho0, hsp, _, _, hblk, htail, C, hC, hCs⟩ : a.off = 0 ∧ a.spot = none ∧ l.length ≤ c ∧ c ≤ maxLen ∧ I.blk a.block = none ∧ (∀ o, l.length * r.sz ≤ o → I.cell a.block o = none) ∧ ∃ C, w.heap[a.block]? = some (.cells C e (0, 0)) ∧ C.size = c * r.sz := hok
      obtain ⟨b, o, s⟩ := a
      simp only at ho0 hsp hblk htail hC
      subst ho0
      subst hsp
      -- the old cells
      have holdI : ∀ j u, cs[j]? = some u → I.cell b j = some u := by
        intro j u hj
        rcases hca with rfl | ⟨a', ha, _, hc⟩
        · simp at hj
        · obtain rfl := Option.some.inj ha
          simpa using hc j u hj
      have hold : ∀ j u, cs[j]? = some u → w.cell? ((⟨b, 0, none⟩ : Addr).add j) = some u := by
        intro j u hj
        rw [addr_add, Nat.zero_add]
        exact S.cell _ _ _ (holdI j u hj)
      by_cases hroom : l.length + l2.length ≤ c
      · have hfit : l.length * q.size + ds.length ≤ C.size := by rw [hdl', hsz, hCs, ← Nat.add_mul]; exact Nat.mul_le_mul_right _ hroom
        have hrun := run_append_room (P := P) w t2 ty e q hu hq b l.length c C hC a2 l2.length c2 ds hdl' hn2 hfl2.one hroom hfit
        rw [hsz] at hrun hfit
        have hlen : ds.length = l2.length * r.sz := hdl
        have hle : I.le (I.ext b (l.length * r.sz) ds) := IMem.le_ext htail
        have hnew := setRow_heap w b C (C.toList.take (l.length * r.sz) ++ ds ++ C.toList.drop (l.length * r.sz + ds.length)).toArray e (0, 0) hC
        have hother := fun k (hk : k ≠ b) => setRow_other w b k (C.toList.take (l.length * r.sz) ++ ds ++ C.toList.drop (l.length * r.sz + ds.length)).toArray hk
        obtain ⟨p1, p2⟩ := List.pairwise_cons.1 S0.apart
        have hCl : C.toList.length = c * r.sz := by simpa using hCs
        refine fin _ _ (I.ext b (l.length * r.sz) ds) hrun hle ?_ ?_
        · refine ⟨fun b' o' u hu' => ?_, fun b' o' hb' => ?_, S0.os, S0.out, S0.tape, fun y hy' => ?_, List.pairwise_cons.2 ⟨fun y hy' b' hb' => p1 y hy' b' hb', p2⟩⟩
          · simp only [IMem.ext] at hu'
            split at hu'
            · rename_i hbo
              obtain ⟨rfl, hle'⟩ := hbo
              simp only [World.cell?, hnew]
              simp only [Option.isSome_none, Bool.false_eq_true, if_false, List.getElem?_toArray]
              have hlt := (List.getElem?_eq_some_iff.1 hu').1
              rw [List.append_assoc, List.getElem?_append_right (by rw [List.length_take]; omega), List.length_take, Nat.min_eq_left (by omega), List.getElem?_append_left hlt]
              exact hu'
            · rename_i hbo
              by_cases hbb : b' = b
              · subst hbb
                have hlt : o' < l.length * r.sz := by
                  rcases Nat.lt_or_ge o' (l.length * r.sz) with h' | h'
                  · exact h'
                  · exact absurd ⟨rfl, h'⟩ hbo
                have h0 := S0.cell _ _ _ hu'
                simp only [World.cell?, hnew, hC] at h0 ⊢
                simp only [Option.isSome_none, Bool.false_eq_true, if_false, List.getElem?_toArray] at h0 ⊢
                rw [List.append_assoc, List.getElem?_append_left (by rw [List.length_take]; omega), List.getElem?_take, if_pos hlt]
                simpa using h0
              · have h0 := S0.cell _ _ _ hu'
                simp only [World.cell?, hother b' hbb] at h0 ⊢
                exact h0
          · by_cases hbb : b' = b
            · subst hbb
              rw [show (I.ext b' (l.length * r.sz) ds).blk b' = I.blk b' from rfl, hblk] at hb'
              cases hb'
            · rw [hother b' hbb]
              exact S0.blk _ _ hb'
          · rcases List.mem_cons.1 hy' with rfl | hq'
            · refine ⟨rfl, rfl, hroom, hcm, hblk, fun o' ho' => ?_, _, hnew, ?_⟩
              · simp only [IMem.ext]
                rw [Nat.add_mul] at ho'
                rw [if_pos ⟨trivial, by omega⟩]
                exact List.getElem?_eq_none (by omega)
              · simp only [List.size_toArray, List.length_append, List.length_take, List.length_drop]
                omega
            · refine It.ok_same (S0.items y (List.mem_cons_of_mem _ hq')) fun b' hb' => ?_
              have hbb : b' ≠ b := fun e => p1 y hq' b rfl (by rw [← e]; exact hb')
              refine ⟨hother b' hbb, rfl, fun o' => ?_⟩
              simp only [IMem.ext]
              rw [if_neg (fun hh => hbb hh.1)]
        · refine ⟨_, _, cs ++ ds, by rw [List.length_append], by rw [List.length_append]; exact hroom, hcm, Flat.append (hfl2.mono hle) (hfl.mono hle), .inr ⟨_, rfl, rfl, fun j u hj => ?_⟩⟩
          simp only [Nat.zero_add]
          rcases Nat.lt_or_ge j cs.length with hj' | hj'
          · rw [List.getElem?_append_left hj'] at hj
            exact hle.cell _ _ _ (holdI j u hj)
          · rw [List.getElem?_append_right hj'] at hj
            simp only [IMem.ext]
            rw [if_pos ⟨trivial, by omega⟩]
            rw [← hcl]; exact hj
      · refine newrow c _ rfl (by omega) ?_
        have hrun := run_append_grow (P := P) w t2 ty e q zv hu hq hz1 ⟨b, 0, none⟩ l.length c cs (by rw [hcl, hsz]) hold a2 l2.length c2 ds hdl' hn2 (by omega) (by omega) (growslice_fits (by omega) hl)
        exact hrun

theorem Own.nil_tv (S : Own I w L) (e sz : Nat) : Own I w (.tv (.slice none 0 0) e sz :: L) := by
  refine ⟨S.cell, S.blk, S.os, S.out, S.tape, fun y hy => ?_, List.pairwise_cons.2 ⟨fun y _ b hb => hb.elim, S.apart⟩⟩
  rcases List.mem_cons.1 hy with rfl | hy
  · exact ⟨rfl, rfl⟩
  · exact S.items y hy

end
end Sp
