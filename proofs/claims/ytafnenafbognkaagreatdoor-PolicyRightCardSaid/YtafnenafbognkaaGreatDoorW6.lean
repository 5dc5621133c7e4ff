/-
  Parts of the proof, merged: Eng15, Eng20, Eng17, Eng18.
-/
import Derived.LaidMore
import Derived.OpenShut
import Derived.ProofKit
import Derived.Stop.Joined
import Derived.Test.YtafnenafbognkaaGreatDoorW5
namespace Sp
open Go Go.RowKit Go.ChangeShapes Go.WideShapes Go.ChangeAt
def I0 (W : World) : IMem := ⟨fun b o => W.cell? ⟨b, o, none⟩, fun b => W.heap[b]?, W.os, W.output, W.tape⟩
theorem own0 (W : World) : Own (I0 W) W [] := ⟨fun _ _ _ h => h, fun _ _ h => h, rfl, rfl, rfl, (fun _ h => by cases h), List.Pairwise.nil⟩
theorem below0 {W W' : World} {L : List It} (S : Own (I0 W) W' L) : Below W.heap.size W W' := by
  have hb : ∀ k, k < W.heap.size → W'.heap[k]? = W.heap[k]? := fun k hk => by
    have h : W.heap[k]? = some W.heap[k] := by simp [hk]
    rw [h]; exact S.blk k _ h
  refine ⟨S.os, S.tape, S.out, ?_, hb⟩
  by_cases h : W.heap.size = 0
  · omega
  · have h1 := hb (W.heap.size - 1) (by omega)
    have h2 : W.heap[W.heap.size - 1]? = some W.heap[W.heap.size - 1] := by simp
    rw [h2] at h1
    have := (Array.getElem?_eq_some_iff.1 h1).1
    omega
section
variable {H : Type} {enc : TypeId × Value → H} {P : Program} {W W' : World}
theorem trodAll_below (hl : laidOutB P = true) (hb : Below W.heap.size W W') : ∀ {ts : List TypeId} {vs : List Value} {ds : List (DataW H)} {ps : List MemPlace},
    (ts.all fun t => P.readableRec t && decide (t < P.types.size)) = true → DataW.TrodAll enc P W 0 (fun _ => true) true ts vs ds ps → (∀ x ∈ ps, x.block < W.heap.size) →
    DataW.TrodAll enc P W' 0 (fun b => decide (b < W.heap.size)) true ts vs ds ps
  | [], vs, ds, ps, _, h, _ => by
    obtain ⟨rfl, rfl, rfl⟩ := trodAll_nil h
    exact trodAll_mk0
  | t :: ts, vs, ds, ps, hr, h, hlt => by
    obtain ⟨v, vs', d, ds', p, q, rfl, rfl, rfl, h1, h2⟩ := trodAll_cons h
    simp only [List.all_cons, Bool.and_eq_true, decide_eq_true_eq] at hr
    exact ⟨p, q, Below.trod hl hr.1.1 hr.1.2 h1 hb (fun x hx => hlt x (List.mem_append_left _ hx)), trodAll_below hl hb (by simpa using hr.2) h2 (fun x hx => hlt x (List.mem_append_right _ hx)), rfl⟩
theorem law_post {f : Func} {s : ChangeSpec} {bt : TypeId} (hl : laidOutB P = true) (hr : (f.params.toList.all fun t => P.readableRec t && decide (t < P.types.size)) = true) (hrt : f.resultTypes = #[bt]) (hbt : P.underlying bt = some .bool)
    (hvars : s.vars = []) {args : Array Value} {ds gs : List (DataW H)} {before : List MemPlace} (hs : s.fn H (ds ++ []) = { results := [.lit (.bool true)], args := ds })
    (hW : DataW.Whole enc P f.params.toList s.vars false W args.toList ds gs before) (hB : Below W.heap.size W W') : s.post enc P f false true false false W args (.bool true) W' := by
  have hlt : ∀ p ∈ before, p.block < W.heap.size := fun p hp => hW.lt p hp
  have hW' := hW
  obtain ⟨p, q, hA, hV, rfl, hz, hn⟩ := hW'
  rw [hvars] at hV
  obtain ⟨rfl, rfl⟩ := trodVars_none hV
  refine ⟨ds, [], p ++ [], [], p, [], hW, ?_, ?_, ?_, hB.frame _, fun h => by cases h⟩
  · rw [hs, hrt]
    exact trodAll_mk1 (shut_bool hbt true)
  · rw [hs]
    exact trodAll_below hl hB hr hA (fun x hx => hlt x (List.mem_append_left _ hx))
  · rw [hs, hvars]; exact rfl
end
def Opn {α : Type} (P : Program) (t : TypeId) (r : RTy α) (ok : α → Prop) : Prop :=
  ∀ {H : Type} {enc : TypeId × Value → H} {W : World} {base : Nat} {spare : Nat → Bool} {held : Bool} {fuel : Nat} {cs : List Value} {y : DataW H × List MemPlace},
    DataW.trod enc P W base spare held fuel t cs = some y → ∃ d, r.rep (I0 W) cs d ∧ ok d
section
variable {P : Program} {t : TypeId} {α : Type}
theorem Opn.int {k : IntKind} (ht : P.underlying t = some (.int k)) : Opn P t (tInt' k) (fun n => (Lit.int k n).wf = true) := fun h => by
  obtain ⟨n, h1, _, h3⟩ := DataW.trod_int ht h
  exact ⟨n, h1, h3⟩
theorem Opn.bool (ht : P.underlying t = some .bool) : Opn P t tBool (fun _ => True) := fun h => by
  obtain ⟨n, h1, _⟩ := DataW.trod_bool ht h
  exact ⟨n, h1, trivial⟩
theorem Opn.string (ht : P.underlying t = some .string) : Opn P t tString (fun s => s.size ≤ maxLen) := fun h => by
  obtain ⟨n, h1, _, h3⟩ := DataW.trod_string ht h
  exact ⟨n, h1, h3⟩
theorem cells_at {W : World} {base : Nat} {a : Addr} {n : Nat} {cs : List Value} (h : W.cells? base a n = some cs) : cs.length = n ∧ ∀ j u, cs[j]? = some u → W.cell? (a.add j) = some u := by
  obtain ⟨_, h1, h2⟩ := World.cells?_some h
  refine ⟨h1, fun j u hj => ?_⟩
  rw [← hj]
  exact h2 j (by have := (List.getElem?_eq_some_iff.1 hj).1; omega)
theorem Opn.build {r : RTy α} {ok : α → Prop} {W : World} (b o : Nat) : ∀ (n : Nat), (∀ i, i < n → ∃ cs d, (∀ j u, cs[j]? = some u → W.cell? ⟨b, o + i * r.sz + j, none⟩ = some u) ∧ r.rep (I0 W) cs d ∧ ok d) →
    ∃ (fs : List Value) (l : List α), l.length = n ∧ Flat r (I0 W) fs l ∧ (∀ x ∈ l, ok x) ∧ ∀ j u, fs[j]? = some u → W.cell? ⟨b, o + j, none⟩ = some u
  | 0, _ => ⟨[], [], rfl, rfl, (fun _ h => by cases h), (fun j u h => by simp at h)⟩
  | n + 1, h => by
    obtain ⟨fs, l, h1, h2, h3, h4⟩ := Opn.build b o n (fun i hi => h i (by omega))
    obtain ⟨cs, d, k1, k2, k3⟩ := h n (by omega)
    refine ⟨fs ++ cs, l ++ [d], by simp [h1], Flat.append (show Flat r (I0 W) cs [d] from ⟨cs, [], by simp, k2, rfl⟩) h2, fun x hx => ?_, fun j u hj => ?_⟩
    · rcases List.mem_append.1 hx with hx | hx
      · exact h3 x hx
      · simp at hx; subst hx; exact k3
    · by_cases e : j < fs.length
      · rw [List.getElem?_append_left e] at hj
        exact h4 j u hj
      · rw [List.getElem?_append_right (by omega)] at hj
        have h5 := k1 _ _ hj
        have h6 := h2.length
        rw [h1] at h6
        rw [show o + n * r.sz + (j - fs.length) = o + j by omega] at h5
        exact h5
theorem Opn.slice {r : RTy α} {ok : α → Prop} {e : TypeId} (ht : P.underlying t = some (.slice e)) (hs : P.cellsOf e = r.sz) (hs0 : Nat.blt 0 r.sz = true) (he : Opn P e r ok) :
    Opn P t (tSlice r) (fun l => l.length ≤ maxLen ∧ ∀ x ∈ l, ok x) := by
  intro H enc W base spare held fuel cs y h
  rcases DataW.trod_slice ht h with ⟨rfl, _⟩ | ⟨a, len, cap, elems, rest, n, _, rfl, _, hb, hl, hm, hlen, hel, _⟩
  · exact ⟨[], ⟨_, rfl, SlR.nil _ _⟩, Nat.zero_le _, (fun _ h => by cases h)⟩
  by_cases h0 : len = 0
  · subst h0
    exact ⟨[], ⟨_, rfl, some a, cap, [], rfl, Nat.zero_le _, hm, rfl, .inl rfl⟩, Nat.zero_le _, (fun _ h => by cases h)⟩
  have hs0' : 0 < r.sz := Nat.le_of_ble_eq_true hs0
  have each : ∀ i, i < len → ∃ cs d, (cs.length = r.sz ∧ ∀ j u, cs[j]? = some u → W.cell? ((a.add (i * r.sz)).add j) = some u) ∧ r.rep (I0 W) cs d ∧ ok d := fun i hi => by
    have h1 := hel i hi
    have h2 : i < elems.length := by omega
    rw [List.getElem?_eq_getElem h2, Option.bind_eq_some_iff] at h1
    obtain ⟨cs, h3, h4⟩ := h1
    rw [hs] at h3
    obtain ⟨d, h5, h6⟩ := he h4
    exact ⟨cs, d, cells_at h3, h5, h6⟩
  obtain ⟨b, o, s⟩ := a
  cases s with
  | some s =>
    obtain ⟨cs, d, ⟨h1, h2⟩, _⟩ := each 0 (by omega)
    have h3 := h2 0 cs[0] (by simp)
    have h4 : (((Addr.mk b o (some s)).add (0 * r.sz)).add 0) = Addr.mk b o (some s) := by rw [Nat.zero_mul]; rfl
    rw [h4] at h3
    unfold World.cell? at h3
    split at h3 <;> simp at h3
  | none =>
    obtain ⟨fs, l, k1, k2, k3, k4⟩ := Opn.build (r := r) (ok := ok) (W := W) b o len (fun i hi => by
      obtain ⟨cs, d, ⟨_, h2⟩, h3, h4⟩ := each i hi
      refine ⟨cs, d, fun j u hj => ?_, h3, h4⟩
      have := h2 j u hj
      rwa [addr_add, addr_add] at this)
    subst k1
    exact ⟨l, ⟨_, rfl, some ⟨b, o, none⟩, cap, fs, rfl, hl, hm, k2, .inr ⟨_, rfl, rfl, fun j u hj => k4 j u hj⟩⟩, by omega, k3⟩
theorem Opn.arg {r : RTy α} {ok : α → Prop} (h : Opn P t r ok) {H : Type} {enc : TypeId × Value → H} {W : World} {base : Nat} {spare : Nat → Bool} {held : Bool} {v : Value} {d : DataW H} {ps : List MemPlace}
    (hd : DataW.Trod enc P W base spare held t v d ps) : ∃ x, r.rep (I0 W) v.cells.toList x ∧ ok x := by
  obtain ⟨fuel, hf⟩ := hd
  exact h hf
end
theorem cells_ints {H : Type} {enc : TypeId × Value → H} {P : Program} {W : World} {base : Nat} {spare : Nat → Bool} {held : Bool} {fuel : Nat} {t e n : TypeId} {k : IntKind} {cs : List Value} {l : List Int} {ps : List MemPlace}
    (ht : P.underlying t = some (.array n e)) (he : P.underlying e = some (.int k)) (hc : P.cellsOf e = 1) (hn : P.cellsOf t = n)
    (h : DataW.trod enc P W base spare held fuel t cs = some (.agg (l.map fun n => .lit (.int k n)), ps)) : cs = l.map (Value.int k) := by
  obtain ⟨xs, m, _, hx, hl, hxs, hel⟩ := DataW.trod_array ht h
  simp only [Prod.mk.injEq, DataW.agg.injEq] at hx
  have hlen : l.length = n := by
    have := congrArg List.length hx.1
    simp only [List.length_map] at this
    omega
  apply List.ext_getElem?
  intro i
  by_cases hi : i < n
  · have h1 := hel i hi
    rw [hc, Nat.mul_one] at h1
    have h2 : i < xs.length := by omega
    rw [List.getElem?_eq_getElem h2] at h1
    obtain ⟨q, h3, h4, _⟩ := DataW.trod_int he h1
    have h5 : cs[i]? = some (.int k q) := by
      have : ((cs.drop i).take 1)[0]? = some (.int k q) := by rw [h3]; rfl
      rw [List.getElem?_take] at this
      simpa using this
    have h6 : (l.map fun n => (DataW.lit (.int k n) : DataW H))[i]? = some (.lit (.int k q)) := by
      rw [hx.1, List.getElem?_map, List.getElem?_eq_getElem h2, h4]; rfl
    rw [List.getElem?_map] at h6 ⊢
    cases hli : l[i]? with
    | none => rw [hli] at h6; cases h6
    | some a =>
      rw [hli] at h6
      simp at h6
      subst h6
      exact h5
  · rw [List.getElem?_eq_none (by omega), List.getElem?_eq_none (by rw [List.length_map]; omega)]
section
variable {P : Program} {t : TypeId} {α : Type} {H : Type} {enc : TypeId × Value → H} {W : World} {base b0 : Nat} {spare : Nat → Bool} {held : Bool} {v : Value} {d : DataW H} {ps : List MemPlace} {q : Reach}
theorem Opn.argS {r : RTy α} {ok : List α → Prop} {e : TypeId} (h : Opn P t (tSlice r) ok) (ht : P.underlying t = some (.slice e)) (hv : Value.okWide P W q b0 t v) (hd : DataW.Trod enc P W base spare held t v d ps) : ∃ x, SlR r (I0 W) v x ∧ ok x := by
  obtain ⟨a, n, c, rfl⟩ := okWide_slice ht hv
  obtain ⟨x, ⟨u, h1, h2⟩, h3⟩ := h.arg hd
  obtain rfl : Value.slice a n c = u := by simpa [Value.cells] using h1
  exact ⟨x, h2, h3⟩
theorem Opn.argR {r : RTy α} {ok : α → Prop} {fs : Array Field} (h : Opn P t r ok) (ht : P.underlying t = some (.struct fs)) (hv : Value.okWide P W q b0 t v) (hd : DataW.Trod enc P W base spare held t v d ps) : ∃ cs x, v = .agg cs ∧ r.rep (I0 W) cs.toList x ∧ ok x := by
  obtain ⟨cs, rfl, _⟩ := okWide_struct ht hv
  obtain ⟨x, h1, h2⟩ := h.arg hd
  exact ⟨cs, x, rfl, h1, h2⟩
end
end Sp
namespace Sp
open Go Go.RowKit Go.ChangeShapes Go.WideShapes Go.ChangeAt
def tFd (P : Program) (s : TypeId) (i : Nat) : Option (Nat × TypeId × Nat) := match P.underlying s with
  | some (.struct fs) => match fs[i]? with
    | some g => some (g.offset, g.type, P.cellsOf g.type)
    | none => none
  | _ => none
def tStr' (P : Program) (s : TypeId) : Bool := match P.underlying s with
  | some (.struct _) => true
  | _ => false
section
variable {P : Program} {s : TypeId} {H : Type} {enc : TypeId × Value → H} {W : World} {base : Nat} {spare : Nat → Bool} {held : Bool} {fuel : Nat} {cs : List Value} {y : DataW H × List MemPlace}
theorem opnLen {n : Nat} (hs : tStr' P s = true) (hn : P.cellsOf s = n) (h : DataW.trod enc P W base spare held fuel s cs = some y) : cs.length = n := by
  unfold tStr' at hs
  split at hs
  · rename_i fs hu
    obtain ⟨_, _, _, _, hl, _⟩ := DataW.trod_struct hu h
    exact hl.trans hn
  · cases hs
theorem opnFld {i off sz : Nat} {ft : TypeId} {α : Type} {r : RTy α} {ok : α → Prop} (hf : tFd P s i = some (off, ft, sz)) (hr : Opn P ft r ok) (h : DataW.trod enc P W base spare held fuel s cs = some y) : ∃ d, r.rep (I0 W) ((cs.drop off).take sz) d ∧ ok d := by
  unfold tFd at hf
  split at hf
  · rename_i fs hu
    split at hf
    · rename_i g hg
      simp only [Option.some.injEq, Prod.mk.injEq] at hf
      obtain ⟨rfl, rfl, rfl⟩ := hf
      obtain ⟨xs, n, _, _, _, hlen, hall⟩ := DataW.trod_struct hu h
      have h1 := hall i g hg
      have hi := (Array.getElem?_eq_some_iff.1 hg).1
      rw [List.getElem?_eq_getElem (by omega)] at h1
      exact hr h1
    · cases hf
  · cases hf
end
theorem lenS {n : Nat} {cs : List Value} (h : cs.length = n + 1) : ∃ c cs', cs = c :: cs' ∧ cs'.length = n := by
  cases cs with
  | nil => cases h
  | cons c cs => exact ⟨c, cs, rfl, by simpa using h⟩
end Sp
namespace Sp
open Go Go.RowKit
set_option maxHeartbeats 1000000
variable {α : Type} {r : RTy α} {I : IMem} {w : World} {L : List It}
def tRaw : RTy Value where
  sz := 1
  rep _ cs x := cs = [x] ∧ x.oneCell' = true
  mono := fun _ h => h
  len := by rintro I cs x ⟨rfl, _⟩; rfl
  one := by rintro I cs x ⟨rfl, h⟩; exact (c1 h c0)
def MxR (r : RTy α) (I : IMem) (vs : List Value) (ps : List (Value × List Value)) (M : List (List α)) : Prop :=
  vs = ps.map (·.1) ∧ ps.length = M.length ∧ ∀ (i : Nat) (p : Value × List Value) (m : List α), ps[i]? = some p → M[i]? = some m → Flat r I p.2 m
theorem MxR.mono {J : IMem} {vs : List Value} {ps : List (Value × List Value)} {M : List (List α)} (h : MxR r I vs ps M) (hl : I.le J) : MxR r J vs ps M :=
  ⟨h.1, h.2.1, fun i p m h1 h2 => (h.2.2 i p m h1 h2).mono hl⟩
theorem MxR.nil (r : RTy α) (I : IMem) : MxR r I [] [] [] := ⟨rfl, rfl, fun _ _ _ h => by simp at h⟩
theorem avApart.symm {x y : Value} (h : avApart x y) : avApart y x := fun b hb hx => h b hx hb
end Sp
namespace Sp
open Go Go.RowKit
abbrev pt (b : Nat) (o : Nat := 0) : Value := .pointer (some ⟨b, o, none⟩)
def at2 (n : Nat) (A : Array Oper) (i : Nat) (σ : Env) : Option Oper :=
  match at? n A i with
  | some o => bif gOK A σ o.guard then some o else none
  | none => none
def mvAt (n : Nat) (A : Array Oper) (i : Nat) (σ : Env) : Option (Option Nat × Value) :=
  match at2 n A i σ with
  | some ⟨d, .move x, _, _, _, _⟩ => some (d, ev σ x)
  | some ⟨d, .assign x, _, _, _, _⟩ => some (d, ev σ x)
  | _ => none
def qc (A : Array Oper) (l : Array Bool) (i : Nat) : Bool := Region.noSelect A && (Region.free .any A l i && (Region.ready .any A l).contains i)
section
variable {P : Program} {n : Nat} {A : Array Oper} {i : Nat} {K : Env → World → Prop} {σ : Env} {w : World} {Q : Post}
theorem at2_spec {o : Oper} (h : at2 n A i σ = some o) : at? n A i = some o ∧ gOK A σ o.guard = true := by
  unfold at2 at h
  split at h
  · rename_i o' ho
    cases hb : gOK A σ o'.guard with
    | true => rw [hb] at h; simp only [cond_true, Option.some.injEq] at h; subst h; exact ⟨ho, hb⟩
    | false => rw [hb] at h; cases h
  · cases h
theorem mvAt_spec {d : Option Nat} {v : Value} (h : mvAt n A i σ = some (d, v)) : ∃ o, at? n A i = some o ∧ gOK A σ o.guard = true ∧ o.dst = d ∧ ∀ w, (execOp (ev σ) o).run P w = .ok (.value v) w := by
  unfold mvAt at h
  split at h
  · rename_i x _ _ _ _ ho
    obtain ⟨h1, h2⟩ := at2_spec ho
    simp only [Option.some.injEq, Prod.mk.injEq] at h
    obtain ⟨rfl, rfl⟩ := h
    exact ⟨_, h1, h2, rfl, fun w => x_mov x⟩
  · rename_i x _ _ _ _ ho
    obtain ⟨h1, h2⟩ := at2_spec ho
    simp only [Option.some.injEq, Prod.mk.injEq] at h
    obtain ⟨rfl, rfl⟩ := h
    exact ⟨_, h1, h2, rfl, fun w => x_asg x⟩
  · cases h
theorem g {o : Oper} (ho : at2 n A i σ = some o) (h : OW P o K σ w) : OK P n A i K σ w := OK.go (at2_spec ho).1 (at2_spec ho).2 h
theorem u {o : Oper} {x : Value} {w' : World} (ho : at2 n A i σ = some o) (hx : (execOp (ev σ) o).run P w = .ok (.value x) w') (h : K (σ.put o.dst x) w') : OK P n A i K σ w := g ho (OW.val hx h)
theorem mv {d : Option Nat} (v : Value) (ho : mvAt n A i σ = some (d, v)) (h : K (σ.put d v) w) : OK P n A i K σ w := by
  obtain ⟨o, h1, h2, rfl, h3⟩ := mvAt_spec (P := P) ho
  exact OK.go h1 h2 (OW.val (h3 w) h)
theorem gu {j t : Nat} {b x : Bool} {d : Option Nat} {op : Op} {ty : TypeId} {pos : String} {af : Array Edge} {v : Value} {w' : World}
    (ho : at? n A i = some ⟨d, op, ty, pos, af, some (j, b)⟩) (ht : (A[j]?).bind (·.dst) = some t) (hx : σ t = .bool x) (hb : x = b)
    (hv : (execOp (ev σ) ⟨d, op, ty, pos, af, some (j, b)⟩).run P w = .ok (.value v) w') (h : K (σ.put d v) w') : OK P n A i K σ w := OK.gt ho ht hx hb (OW.val hv h)
theorem gn {j t : Nat} {b x : Bool} {d : Option Nat} {op : Op} {ty : TypeId} {pos : String} {af : Array Edge}
    (ho : at? n A i = some ⟨d, op, ty, pos, af, some (j, b)⟩) (ht : (A[j]?).bind (·.dst) = some t) (hx : σ t = .bool x) (hb : x = !b)
    (h : K (σ.put d undef) w) : OK P n A i K σ w := OK.gf ho ht hx hb h
theorem sq {x y : Code} (h : FW P n x (thenQ (FW P n y Q) Q) σ w) : FW P n (.seq x y) Q σ w := FW.seq h
theorem rg {id : Nat} (h : SQ P n A (List.range A.size) (Q .normal) σ w) : FW P n (.region id A false) Q σ w := FW.region h
theorem sr {id : Nat} {y : Code} (h : SQ P n A (List.range A.size) (FW P n y Q) σ w) : FW P n (.seq (.region id A false) y) Q σ w := FW.seq (FW.region h)
theorem sk (h : Q .normal σ w) : FW P n .skip Q σ w := FW.skip h
theorem bk {id : Nat} {c : Code} (h : FW P n c (inBlockQ id Q) σ w) : FW P n (.block id c) Q σ w := FW.block h
theorem rt (h : Q .ret σ w) : FW P n .ret Q σ w := FW.ret h
theorem ex {id : Nat} (h : Q (.exit id) σ w) : FW P n (.exit id) Q σ w := FW.exit h
theorem cT {c : Operand} {x y : Code} {b : Bool} (hc : ev σ c = .bool b) (hb : b = true) (h : FW P n x Q σ w) : FW P n (.cond c x y) Q σ w := FW.condT hc hb h
theorem cF {c : Operand} {x y : Code} {b : Bool} (hc : ev σ c = .bool b) (hb : b = false) (h : FW P n y Q σ w) : FW P n (.cond c x y) Q σ w := FW.condF hc hb h
theorem qc_spec {l : Array Bool} (h : qc A l i = true) : Region.noSelect A = true ∧ Region.free .any A l i = true ∧ (Region.ready .any A l).contains i = true := by
  unfold qc at h
  simp only [Bool.and_eq_true] at h
  exact h
theorem ap {fuel : Nat} {O : Obl} {l : Array Bool} (i : Nat) {o : Oper} {v : Value} (ho : at2 n A i σ = some o) (hc : qc A l i = true) (hO : Hold O w) (hx : ∀ w, (execOp (ev σ) o).run P w = .ok (.value v) w)
    (h : AQ P n A K fuel O (l.setIfInBounds i true) (σ.put o.dst v) w) : AQ P n A K (fuel + 1) O l σ w :=
  AQ.pure i (at2_spec ho).1 (qc_spec hc).1 (qc_spec hc).2.1 (qc_spec hc).2.2 (at2_spec ho).2 hO hx h
theorem am {fuel : Nat} {O : Obl} {l : Array Bool} (i : Nat) {d : Option Nat} (v : Value) (ho : mvAt n A i σ = some (d, v)) (hc : qc A l i = true) (hO : Hold O w)
    (h : AQ P n A K fuel O (l.setIfInBounds i true) (σ.put d v) w) : AQ P n A K (fuel + 1) O l σ w := by
  obtain ⟨o, h1, h2, rfl, h3⟩ := mvAt_spec (P := P) ho
  exact AQ.pure i h1 (qc_spec hc).1 (qc_spec hc).2.1 (qc_spec hc).2.2 h2 hO h3 h
theorem ak {fuel : Nat} {O : Obl} {l : Array Bool} (S : World → Prop) (i : Nat) {o : Oper} {v : Value} (ho : at2 n A i σ = some o) (hc : qc A l i = true) (hO : Hold O w) (hS : S w)
    (hx : ∀ w, S w → (execOp (ev σ) o).run P w = .ok (.value v) w) (h : Hold ((i, S) :: O) w → AQ P n A K fuel ((i, S) :: O) (l.setIfInBounds i true) (σ.put o.dst v) w) : AQ P n A K (fuel + 1) O l σ w :=
  AQ.take i (at2_spec ho).1 (qc_spec hc).1 (qc_spec hc).2.1 (qc_spec hc).2.2 (at2_spec ho).2 hO hS hx h
end
theorem si {α : Type} {a b : α} (h : some a = some b) : a = b := Option.some.inj h
end Sp
