/-
  OWNED ARRAYS: made, grown; arrays that are written out.
-/
import Derived.Test.YtkkflfmonidepaaDoorEng9
namespace Sp
open Go Go.RowKit

section
variable {P : Program} {σ : Env} {w : World} {I : IMem} {L : List It} {K : Env → World → Prop} {α : Type} {r : RTy α} {n : Nat}
variable {d : Option Nat} {ty : TypeId} {pos : String} {af : Array Edge} {g : Option (Nat × Bool)}

theorem Own.newAv (S : Own I w L) {T sz len ca : Nat} {cs : List Value} {C : Array Value} {wn : World} (hB : Below w.heap.size w wn) (hC : wn.heap[w.heap.size]? = some (.cells C T (0, 0))) (hl : len ≤ ca) (hm : ca ≤ maxLen) (hcs : cs.length = len * sz) (hCs : C.size = ca * sz) (ht : C.toList.take (len * sz) = cs) :
    Own I wn (.av (.slice (some ⟨w.heap.size, 0, none⟩) len ca) T sz cs :: L) := by
  have S1 := S.below hB
  obtain ⟨f1, f2, f3⟩ := S.fresh
  refine ⟨S1.cell, S1.blk, S1.os, S1.out, S1.tape, fun y hy => ?_, List.pairwise_cons.2 ⟨fun y hy b hb hyb => ?_, S1.apart⟩⟩
  · rcases List.mem_cons.1 hy with rfl | hy
    · exact ⟨rfl, rfl, hl, hm, f1, f2, hcs, C, hC, hCs, ht⟩
    · exact S1.items y hy
  · obtain rfl : b = _ := hb
    exact f3 y hy hyb

/-- A list is grown whose array is owned. -/
theorem o_appV {t t2 e sz by' : Nat} {z : List Value} (ht : tSl P t = some (e, sz, by')) (ht2 : t2 = t) (hz : tZ P e = some z) (hr : r.sz = sz) (hs : Nat.blt 0 sz = true) {x y : Operand} {v : Value} {l l2 m : List α} {cs : List Value}
    (S : Own I w L) (i : Nat) (hi : L[i]? = some (.av v e sz cs)) (hx : ev σ x = v) (hf : Flat r I cs l) (h2 : SlR r I (ev σ y) l2) (hm : app by' l l2 = some m)
    (h : ∀ v' w' cs', Own I w' (L.set i (.av v' e sz cs')) → Flat r I cs' m → K (σ.put d v') w') : OW P ⟨d, .call ⟨.builtin .append, #[x, y], #[t, t2]⟩, ty, pos, af, g⟩ K σ w := by
  obtain ⟨hl, h63, rfl⟩ := app_ok hm
  subst ht2
  subst hr
  have hs' : 0 < r.sz := by have := Nat.le_of_ble_eq_true hs; omega
  obtain ⟨hu, q, hq, hsz, hby⟩ := tSl_spec ht
  obtain ⟨q', zv, hq', hz1, hz2, hz3, hz4⟩ := tZ_spec (P := P) (w := w) hz
  obtain rfl : q = q' := Option.some.inj (hq.symm.trans hq')
  subst hby
  obtain ⟨A2, c2, hv2⟩ := h2.sl
  rw [hv2] at h2
  have S0 := S.pick i hi
  have hok := S0.items _ (List.mem_cons_self ..)
  obtain ⟨ds, _, hnd, hdm, hdl, hfl2, hda⟩ := h2.cells
  have hcl := hf.length
  have hfin : Flat r I (cs ++ ds) (l ++ l2) := Flat.append hfl2 hf
  have fin : ∀ (v' : Value) (w' : World) (cs' : List Value), (Builtin.append_ #[t2, t2] ty #[v, .slice A2 l2.length c2]).run P w = .ok v' w' → Own I w' (.av v' e r.sz cs' :: L.eraseIdx i) → Flat r I cs' (l ++ l2) →
      OW P ⟨d, .call ⟨.builtin .append, #[x, y], #[t2, t2]⟩, ty, pos, af, g⟩ K σ w := by
    intro v' w' cs' hrun hS hrep
    refine OW.val (v := v') (w' := w') ?_ (h v' w' cs' (hS.perm (perm_set L i _ _ hi)) hrep)
    simp only [execOp, resolve, invoke, builtin, Sem.run_bind, Sem.run_pure, Result.andThen_ok, List.map_toArray, List.map_cons, List.map_nil, hx, hv2, hrun]
  have hsmall : l.length + l2.length ≤ 9223372036854775807 := by simp only [maxLen] at h63; omega
  have hzs : zv.cells.size = r.sz := hz3.trans hsz
  have hshape := av_shape S i hi hf rfl hs
  obtain ⟨⟨A, c, rfl⟩, hcell⟩ := hshape
  by_cases hm0 : l2 = []
  · subst hm0
    have hds : ds = [] := List.eq_nil_of_length_eq_zero (by simpa using hdl)
    subst hds
    have hroom : l.length ≤ c := by
      cases A with
      | none => obtain ⟨h0, _, _⟩ : l.length = 0 ∧ c = 0 ∧ cs = [] := hok; omega
      | some a => exact hok.2.2.1
    refine fin (.slice A l.length c) w cs ?_ S0 (by simpa using hf)
    cases A2 <;> cases A <;> simp [Builtin.append_, run_underlying hu, Go.sizeOf, typeInfo, hq, Builtin.lenOf, hroom, Builtin.firstCells, loadCells, loadCellsFrom, storeCells]
  · have hmp : 0 < l2.length := List.length_pos_iff.2 hm0
    have hdne : ds ≠ [] := fun e => by
      rw [e] at hdl
      have := Nat.mul_pos hmp hs'
      simp at hdl; omega
    obtain ⟨a2, rfl, hsp2, hc2⟩ := hda.resolve_left hdne
    have hn2 : ∀ j u, ds[j]? = some u → w.cell? (a2.add j) = some u := by
      intro j u hj
      obtain ⟨b, o, s⟩ := a2
      simp only at hsp2
      subst hsp2
      rw [addr_add]
      exact S.cell _ _ _ (hc2 j u hj)
    have hdl' : ds.length = l2.length * q.size := by rw [hdl, hsz]
    have newrow : ∀ (old : Nat) (ca : Nat), ca = grownCap w (l.length + l2.length) old e →
        (Builtin.append_ #[t2, t2] ty #[.slice A l.length c, .slice (some a2) l2.length c2]).run P w = .ok (.slice (some ⟨w.heap.size, 0, none⟩) (l.length + l2.length) ca) (w.drew.alloc (.cells (cs.toArray ++ ds.toArray ++ Builtin.zeroCells zv.cells (ca - (l.length + l2.length))) e)) →
        OW P ⟨d, .call ⟨.builtin .append, #[x, y], #[t2, t2]⟩, ty, pos, af, g⟩ K σ w := by
      intro old ca hca hrun
      have hge : l.length + l2.length ≤ ca := by rw [hca]; exact grownCap_ge w _ old e
      have hcm' : ca ≤ maxLen := by rw [hca]; exact grownCap_le_maxLen w _ old e h63
      refine fin _ _ (cs ++ ds) hrun ?_ hfin
      refine S0.drop.newAv ((Below.refl _ _).drew.alloc (by simp) _) (heap_new w.drew _) hge hcm' (by rw [List.length_append, hcl, hdl, Nat.add_mul]) ?_ ?_
      · simp only [Array.size_append, List.size_toArray, size_zeroCells, hzs, hcl, hdl, ← Nat.add_mul]
        congr 1
        omega
      · simp only [Array.toList_append, List.append_assoc]
        rw [← List.append_assoc]
        apply List.take_left'
        rw [List.length_append, hcl, hdl, ← Nat.add_mul]
    cases A with
    | none =>
      obtain ⟨hn0, hc0, hcs0⟩ : l.length = 0 ∧ c = 0 ∧ cs = [] := hok
      subst hc0
      have hl0 : l = [] := List.eq_nil_of_length_eq_zero hn0
      subst hl0
      subst hcs0
      refine newrow 0 _ rfl ?_
      have hrr := run_append_nil (P := P) w t2 ty e q zv hu hq hz1 a2 l2.length c2 ds hdl' hn2 hmp (by simp at hsmall; omega) (by simp at hl; omega)
      simpa using hrr
    | some a =>
      obtain ⟨ho, hsp, hnc, hcm, hb, hcell', hcl', C, hC, hCs, hCt⟩ : a.off = 0 ∧ a.spot = none ∧ l.length ≤ c ∧ c ≤ maxLen ∧ I.blk a.block = none ∧ (∀ o, I.cell a.block o = none) ∧ cs.length = l.length * r.sz ∧ ∃ C, w.heap[a.block]? = some (.cells C e (0, 0)) ∧ C.size = c * r.sz ∧ C.toList.take (l.length * r.sz) = cs := hok
      obtain ⟨b, o, s⟩ := a
      simp only at ho hsp hb hcell' hC
      subst ho
      subst hsp
      by_cases hroom : l.length + l2.length ≤ c
      · have hfit : l.length * q.size + ds.length ≤ C.size := by rw [hdl', hsz, hCs, ← Nat.add_mul]; exact Nat.mul_le_mul_right _ hroom
        have hrun := run_append_room (P := P) w t2 ty e q hu hq b l.length c C hC a2 l2.length c2 ds hdl' hn2 hfl2.one hroom hfit
        rw [hsz] at hrun hfit
        have hCl : C.toList.length = c * r.sz := by simpa using hCs
        have hnew := setRow_heap w b C (C.toList.take (l.length * r.sz) ++ ds ++ C.toList.drop (l.length * r.sz + ds.length)).toArray e (0, 0) hC
        refine fin _ _ (cs ++ ds) hrun ?_ hfin
        refine S0.turn (b := b) rfl (fun k hk => hk) hcell' hb (fun k hk => setRow_other w b k _ hk) rfl rfl rfl ⟨rfl, rfl, hroom, hcm, hb, hcell', by rw [List.length_append, hcl, hdl, Nat.add_mul], _, hnew, ?_, ?_⟩
        · simp only [List.size_toArray, List.length_append, List.length_take, List.length_drop]
          omega
        · simp only [hCt]
          apply List.take_left'
          rw [List.length_append, hcl, hdl, ← Nat.add_mul]
      · refine newrow c _ rfl ?_
        exact run_append_grow (P := P) w t2 ty e q zv hu hq hz1 ⟨b, 0, none⟩ l.length c cs (by rw [hcl, hsz]) (fun j u hj => by rw [addr_add, Nat.zero_add]; exact S.loadV i hi rfl hj) a2 l2.length c2 ds hdl' hn2 (by omega) (by omega) (growslice_fits (by omega) hl)

theorem av_one {v : Value} {T sz : Nat} {cs : List Value} (S : Own I w L) (i : Nat) (hi : L[i]? = some (.av v T sz cs)) : v.oneCell' = true := by
  have hok := S.items _ (List.mem_of_getElem? hi)
  cases v <;> first | rfl | exact hok.elim

/-- So many of one thing. -/
def made {α : Type} (by' : Nat) (x : α) (j : Int) : Option (List α) := if 0 ≤ j ∧ j * by' ≤ 140737488355328 ∧ j ≤ maxLen then some (List.replicate j.toNat x) else none
theorem Flat.rep {x : α} {z : List Value} (h : r.rep I z x) : ∀ n, Flat r I ((List.replicate n z).flatten) (List.replicate n x)
  | 0 => rfl
  | n + 1 => by rw [List.replicate_succ, List.flatten_cons, List.replicate_succ]; exact ⟨z, _, rfl, h, Flat.rep h n⟩

theorem o_mk {t e sz by' : Nat} {z : List Value} (ht : tSl P t = some (e, sz, by')) (hz : tZ P e = some z) (hr : r.sz = sz) (hs : Nat.blt 0 sz = true) (hb2 : Nat.ble by' 281474976710656 = true) {a : Operand} {k k' : IntKind} {b : Operand} {j : Int} {x0 : α} {m : List α} (ha : ev σ a = .int k j) (hb : ev σ b = .int k' j) (hm : made by' x0 j = some m) (hrep : r.rep I z x0)
    (S : Own I w L) (h : ∀ v w' cs, Own I w' (.av v e sz cs :: L) → Flat r I cs m → K (σ.put d v) w') : OW P ⟨d, .makeSlice t a b, ty, pos, af, g⟩ K σ w := by
  have a2 : 0 < sz := Nat.le_of_ble_eq_true hs
  unfold made at hm
  split at hm
  · rename_i hj
    obtain ⟨h0, h1, h2⟩ := hj
    obtain rfl := Option.some.inj hm
    obtain ⟨hu, q, hq, hsz, hby⟩ := tSl_spec ht
    obtain ⟨q', zv, hq', hz1, hz2, hz3, hz4⟩ := tZ_spec (P := P) (w := w) hz
    obtain rfl : q = q' := Option.some.inj (hq.symm.trans hq')
    subst hby
    subst hr
    have hzl : z.length = r.sz := by rw [← hz2, ← hsz, ← hz3]; simp
    obtain ⟨p, rfl⟩ : ∃ p : Nat, j = p := ⟨j.toNat, by omega⟩
    have hp : p ≤ 9223372036854775807 := by simp only [maxLen] at h2; omega
    have hwrap : IntKind.i64.wrap (p : Int) = p := by
      simp only [IntKind.wrap, IntKind.bits, IntKind.signed]
      simp
      omega
    have hlarge : ¬ ((q.bytes : Int) * (p : Int) > 2 ^ 48) := by
      have : (q.bytes : Int) * (p : Int) = (p : Int) * q.bytes := Int.mul_comm _ _
      omega
    have hflat : ((List.replicate p z).flatten).length = p * r.sz := by simp [hzl]
    have hzz := zeros_eq zv z hz2 (by omega) p
    rw [hzl] at hzz
    have hrun : (execOp (ev σ) ⟨d, .makeSlice t a b, ty, pos, af, g⟩).run P w = .ok (.value (.slice (some ⟨w.heap.size, 0, none⟩) p p)) (w.alloc (.cells ((List.replicate p z).flatten).toArray e)) := by
      have hti : (typeInfo e).run P w = .ok q w := by simp [typeInfo, hq]
      have hsz' : (Go.sizeOf e).run P w = .ok r.sz w := by simp [Go.sizeOf, typeInfo, hq, hsz]
      have hneg : ¬ ((p : Int) < 0) := by omega
      simp only [execOp, Instr.makeSlice, ha, hb, asInt, asIntOf, Sem.run_bind, Sem.run_pure, Result.andThen_ok, und_run hu, hti, hwrap]
      simp only [hneg, hlarge, decide_false, Bool.false_or, Bool.or_false, Int.lt_irrefl, gt_iff_lt, Bool.false_eq_true, if_false]
      by_cases hp0 : p = 0
      · subst hp0
        simp [newRow, hsz']
        exact congrArg (fun c => w.alloc (Obj.cells c e)) (by apply Array.ext'; simp)
      · have hne : ¬ (p * r.sz = 0) := by
          have := Nat.mul_pos (Nat.pos_of_ne_zero hp0) a2
          omega
        simp only [run_askRoom, Result.andThen_ok, hsz', Int.toNat_natCast, hne, if_false, Sem.run_bind, hz4, Sem.run_pure, hzz]
        simp [newRow]
    refine OW.val hrun (h _ _ _ (S.newAv (below_alloc w _) (heap_new w _) (Nat.le_refl _) (by simp only [maxLen]; omega) hflat (by simp [hzl]) ?_) (Flat.rep hrep p))
    simp only []
    rw [← hflat, List.take_length]
  · cases hm

theorem e_iaVD {S' : World → Prop} {t e sz by' : Nat} (ht : tSl P t = some (e, sz, by')) (hr : r.sz = sz) (hs : Nat.blt 0 sz = true) {x i : Operand} {l : List α} {cs : List Value} {k : IntKind} {j : Int} {y : α} (S : Own I w L) (q : Nat) (hq : L[q]? = some (.av (ev σ x) e sz cs)) (hf : Flat r I cs l) (hi : ev σ i = .int k j) (hy : lat l j = some y) :
    ∃ p, (∃ b c' c, p = .pointer (some ⟨b, j.toNat * sz, none⟩) ∧ ev σ x = .slice (some ⟨b, 0, none⟩) l.length c ∧ r.rep I c' y ∧ (∀ p u, c'[p]? = some u → cs[j.toNat * sz + p]? = some u)) ∧
      ∀ w, S' w → (execOp (ev σ) ⟨d, .indexAddr t x i, ty, pos, af, g⟩).run P w = .ok (.value p) w := by
  obtain ⟨b, c', c, h1, h2, h3, h4⟩ := e_iaV (P := P) (d := d) (ty := ty) (pos := pos) (af := af) (g := g) ht hr hs S q hq hf hi hy
  exact ⟨_, ⟨b, c', c, rfl, h1, h2, h3⟩, fun w _ => h4 w⟩
theorem x_lenVD {t e sz by' : Nat} (ht : tSl P t = some (e, sz, by')) (hr : r.sz = sz) (hs : Nat.blt 0 sz = true) {x : Operand} {l : List α} {cs : List Value} (S : Own I w L) (i : Nat) (hi : L[i]? = some (.av (ev σ x) e sz cs)) (hf : Flat r I cs l) (w' : World) :
    (execOp (ev σ) ⟨d, .call ⟨.builtin .len, #[x], #[t]⟩, ty, pos, af, g⟩).run P w' = .ok (.value (.int .i64 l.length)) w' := by
  obtain ⟨⟨A, c, h⟩, _⟩ := av_shape S i hi hf hr hs
  exact x_len ht h

theorem x_idxG {t n e sz : Nat} (ht : tAr P t = some (n, e, sz)) (he : tSc P e = true) (hsz : sz = 1) {x i : Operand} {l : List Int} {k k' : IntKind} {j c : Int} (hx : ev σ x = .agg (l.map (Value.int k)).toArray) (hi : ev σ i = .int k' j) (hn : l.length = n) (hc : lat l j = some c) :
    (execOp (ev σ) ⟨d, .index t x i, ty, pos, af, g⟩).run P w = .ok (.value (.int k c)) w := by
  obtain ⟨h0, h1, h2⟩ := lat_ok hc
  refine x_idxA (v := .int k c) ht he hsz hx hi h0 (by omega) ?_
  simp [h2]

/-- An array that is written out. -/
theorem x_bldA {t len e sz : Nat} {z cs : List Value} (ht : tAr P t = some (len, e, sz)) (hz : tZ P t = some z) {parts : Array (Nat × Operand)} {ps : List (Nat × Value)} {qs : List (Nat × List Value)}
    (he : parts.toList.map (fun p => (p.1, ev σ p.2)) = ps) (hq : PC ps qs) (hf : fillL (fun i => some (i * sz, sz)) z qs = some cs) :
    (execOp (ev σ) ⟨d, .build t parts, ty, pos, af, g⟩).run P w = .ok (.value (.agg cs.toArray)) w := by
  obtain ⟨i, v, h1, h2, h3, h4, h5⟩ := tZ_spec (P := P) (w := w) hz
  obtain ⟨hu, q, hq2, hsz⟩ := tAr_spec ht
  subst he
  have hfill := fill_of hq z cs hf
  have ev1 : (parts.map fun (p : Nat × Operand) => (p.1, ev σ p.2)).toList = parts.toList.map (fun p => (p.1, ev σ p.2)) := by simp
  have hz' : v.cells = z.toArray := by rw [← h3]
  have hsz' : (Go.sizeOf e).run P w = .ok sz w := by simp [Go.sizeOf, typeInfo, hq2, hsz]
  simp only [execOp, Instr.build, Sem.run_bind, h5, Result.andThen_ok, und_run hu, hsz', ev1, hz', hfill]
  simp

end
end Sp
