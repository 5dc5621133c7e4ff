/-
  THE OPERATIONS: what each one yields, of any program in which the types are as the first arguments say.
-/
import Derived.Test.YtkkflfmonidepaaDoorEng1
namespace Sp
open Go

/-! ### What is asked of types (each a closed fact of the program at hand) -/

/-- A type that is no struct and no array. -/
def tSc (P : Program) (t : TypeId) : Bool := match P.underlying t with
  | some (.struct _) | some (.array _ _) => false
  | some _ => true
  | none => false
/-- A struct or an array, and how many cells it has. -/
def tAg (P : Program) (t : TypeId) : Option Nat := match P.underlying t, P.info? t with
  | some (.struct _), some i | some (.array _ _), some i => some i.size
  | _, _ => none
/-- The cells of a type's zero. -/
def tZ (P : Program) (t : TypeId) : Option (List Value) := match P.info? t with
  | some i => match i.zero with
    | some z => bif Nat.beq z.cells.size i.size then some z.cells.toList else none
    | none => none
  | none => none
/-- A slice: its elements' type, their cells, their bytes. -/
def tSl (P : Program) (t : TypeId) : Option (TypeId × Nat × Nat) := match P.underlying t with
  | some (.slice e) => match P.info? e with
    | some i => some (e, i.size, i.bytes)
    | none => none
  | _ => none
/-- An array: how long, its elements' type, their cells. -/
def tAr (P : Program) (t : TypeId) : Option (Nat × TypeId × Nat) := match P.underlying t with
  | some (.array n e) => match P.info? e with
    | some i => some (n, e, i.size)
    | none => none
  | _ => none
/-- A struct's field: its place, and its type. -/
def tF (P : Program) (s : TypeId) (f : Nat) : Option (Nat × TypeId) := match P.underlying s with
  | some (.struct fs) => match fs[f]? with
    | some g => bif Nat.beq (P.cellsOf g.type) 0 then none else some (g.offset, g.type)
    | none => none
  | _ => none
def tInt (P : Program) (t : TypeId) : Option IntKind := match P.underlying t with
  | some (.int k) => some k
  | _ => none
def tStr (P : Program) (t : TypeId) : Bool := match P.underlying t with
  | some .string => true
  | _ => false
/-- A function with a body. -/
def fB (P : Program) (f : FuncId) : Bool := match P.funcs[f]? with
  | some fn => !(fn.name == "runtime.NumGoroutine") && fn.body.isSome
  | none => false

section
variable {P : Program} {σ : Env} {w : World}

theorem und_run {t : TypeId} {d : TypeDesc} (h : P.underlying t = some d) : (underlying t).run P w = .ok d w := run_underlying h w

theorem tSc_spec {t : TypeId} (h : tSc P t = true) : (isAgg t).run P w = .ok false w := by
  unfold tSc at h
  cases hu : P.underlying t with
  | none => simp [hu] at h
  | some d => cases d <;> simp [hu] at h <;> simp [isAgg, und_run hu]

theorem tAg_spec {t n : Nat} (h : tAg P t = some n) : (isAgg t).run P w = .ok true w ∧ (Go.sizeOf t).run P w = .ok n w := by
  unfold tAg at h
  cases hu : P.underlying t with
  | none => simp [hu] at h
  | some d =>
    cases hi : P.info? t with
    | none => cases d <;> simp [hu, hi] at h
    | some i => cases d <;> simp [hu, hi] at h <;> subst h <;> simp [isAgg, und_run hu, Go.sizeOf, typeInfo, hi]

theorem tZ_spec {t : TypeId} {z : List Value} (h : tZ P t = some z) : ∃ i v, P.info? t = some i ∧ i.zero = some v ∧ v.cells.toList = z ∧ v.cells.size = i.size ∧ (zeroValue t).run P w = .ok v w := by
  unfold tZ at h
  cases hi : P.info? t with
  | none => simp [hi] at h
  | some i =>
    cases hz : i.zero with
    | none => simp [hi, hz] at h
    | some v =>
      simp only [hi, hz] at h
      cases hb : Nat.beq v.cells.size i.size with
      | false => simp [hb] at h
      | true =>
        simp only [hb, cond_true, Option.some.injEq] at h
        exact ⟨i, v, rfl, hz, h, Nat.eq_of_beq_eq_true hb, by simp [zeroValue, typeInfo, hi, hz]⟩

theorem tSl_spec {t e sz by' : Nat} (h : tSl P t = some (e, sz, by')) : P.underlying t = some (.slice e) ∧ ∃ i, P.info? e = some i ∧ i.size = sz ∧ i.bytes = by' := by
  unfold tSl at h
  cases hu : P.underlying t with
  | none => simp [hu] at h
  | some d =>
    cases d <;> simp [hu] at h
    rename_i e'
    cases hi : P.info? e' with
    | none => simp [hi] at h
    | some i =>
      simp only [hi, Option.some.injEq, Prod.mk.injEq] at h
      obtain ⟨rfl, h1, h2⟩ := h
      exact ⟨rfl, i, hi, h1, h2⟩

theorem tAr_spec {t n e sz : Nat} (h : tAr P t = some (n, e, sz)) : P.underlying t = some (.array n e) ∧ ∃ i, P.info? e = some i ∧ i.size = sz := by
  unfold tAr at h
  cases hu : P.underlying t with
  | none => simp [hu] at h
  | some d =>
    cases d <;> simp [hu] at h
    rename_i n' e'
    cases hi : P.info? e' with
    | none => simp [hi] at h
    | some i =>
      simp only [hi, Option.some.injEq, Prod.mk.injEq] at h
      obtain ⟨rfl, rfl, h2⟩ := h
      exact ⟨rfl, i, hi, h2⟩

theorem tF_spec {s f off t : Nat} (h : tF P s f = some (off, t)) : ∃ fs g, P.underlying s = some (.struct fs) ∧ fs[f]? = some g ∧ g.offset = off ∧ g.type = t ∧ P.cellsOf t ≠ 0 := by
  unfold tF at h
  cases hu : P.underlying s with
  | none => simp [hu] at h
  | some d =>
    cases d <;> simp [hu] at h
    rename_i fs
    cases hg : fs[f]? with
    | none => simp [hg] at h
    | some g =>
      cases hb : Nat.beq (P.cellsOf g.type) 0 with
      | true => simp [hg, hb] at h
      | false =>
        simp [hg, hb] at h
        obtain ⟨rfl, rfl⟩ := h
        exact ⟨fs, g, rfl, hg, rfl, rfl, fun e => by rw [e] at hb; cases hb⟩

theorem tInt_spec {t : TypeId} {k : IntKind} (h : tInt P t = some k) : P.underlying t = some (.int k) := by
  unfold tInt at h
  cases hu : P.underlying t with
  | none => simp [hu] at h
  | some d => cases d <;> simp [hu] at h; subst h; rfl

theorem tStr_spec {t : TypeId} (h : tStr P t = true) : P.underlying t = some .string := by
  unfold tStr at h
  cases hu : P.underlying t with
  | none => simp [hu] at h
  | some d => cases d <;> simp [hu] at h; rfl

theorem addr_add (b o n : Nat) : (⟨b, o, none⟩ : Addr).add n = ⟨b, o + n, none⟩ := by
  unfold Addr.add
  split <;> simp_all

/-! ### Operations that leave the world alone -/

section
variable {d : Option Nat} {ty : TypeId} {pos : String} {af : Array Edge} {g : Option (Nat × Bool)}

theorem x_mov (x : Operand) : (execOp (ev σ) ⟨d, .move x, ty, pos, af, g⟩).run P w = .ok (.value (ev σ x)) w := rfl
theorem x_asg (x : Operand) : (execOp (ev σ) ⟨d, .assign x, ty, pos, af, g⟩).run P w = .ok (.value (ev σ x)) w := rfl
theorem x_pick {c a b : Operand} {x : Bool} (hc : ev σ c = .bool x) : (execOp (ev σ) ⟨d, .pick c a b, ty, pos, af, g⟩).run P w = .ok (.value (if x then ev σ a else ev σ b)) w := by
  simp [execOp, hc, asBool]
theorem x_pickT {c a b : Operand} {x : Bool} (hc : ev σ c = .bool x) (h : x = true) : (execOp (ev σ) ⟨d, .pick c a b, ty, pos, af, g⟩).run P w = .ok (.value (ev σ a)) w := by
  rw [x_pick hc, h]; rfl
theorem x_pickF {c a b : Operand} {x : Bool} (hc : ev σ c = .bool x) (h : x = false) : (execOp (ev σ) ⟨d, .pick c a b, ty, pos, af, g⟩).run P w = .ok (.value (ev σ b)) w := by
  rw [x_pick hc, h]; rfl
theorem x_nk {x : Operand} {a : Addr} (hx : ev σ x = .pointer (some a)) : (execOp (ev σ) ⟨d, .nilCheck x, ty, pos, af, g⟩).run P w = .ok (.value (.pointer (some a))) w := by
  simp [execOp, hx]
theorem x_nkf {x : Operand} {f : FuncId} {as bs : Array Value} (hx : ev σ x = .func (.func f) as bs) : (execOp (ev σ) ⟨d, .nilCheck x, ty, pos, af, g⟩).run P w = .ok (.value (.func (.func f) as bs)) w := by
  simp [execOp, hx]
theorem x_mkf {fn : Fn} {as bs : Array Operand} : (execOp (ev σ) ⟨d, .makeFunc fn as bs, ty, pos, af, g⟩).run P w = .ok (.value (.func fn (as.map (ev σ)) (bs.map (ev σ)))) w := by
  simp [execOp, Instr.makeFunc]
theorem x_fa {s f off t : Nat} (hf : tF P s f = some (off, t)) {x : Operand} {b o : Nat} (hx : ev σ x = .pointer (some ⟨b, o, none⟩)) :
    (execOp (ev σ) ⟨d, .fieldAddr s x f, ty, pos, af, g⟩).run P w = .ok (.value (.pointer (some ⟨b, o + off, none⟩))) w := by
  obtain ⟨fs, q, h1, h2, rfl, rfl, h3⟩ := tF_spec hf
  have hs : (Go.sizeOf q.type).run P w = .ok (P.cellsOf q.type) w := by
    cases hi : P.info? q.type with
    | none => simp [Program.cellsOf, hi] at h3
    | some i => simp [Go.sizeOf, typeInfo, Program.cellsOf, hi]
  simp [execOp, Instr.fieldAt, und_run h1, h2, hx, Instr.sureAddr, fieldPlace, hs, h3, addr_add]
theorem x_ia {t e sz by' : Nat} (ht : tSl P t = some (e, sz, by')) {x i : Operand} {b o n c : Nat} {k : IntKind} {j : Int} (hx : ev σ x = .slice (some ⟨b, o, none⟩) n c) (hi : ev σ i = .int k j)
    (h0 : 0 ≤ j) (h1 : j < n) : (execOp (ev σ) ⟨d, .indexAddr t x i, ty, pos, af, g⟩).run P w = .ok (.value (.pointer (some ⟨b, o + j.toNat * sz, none⟩))) w := by
  obtain ⟨hu, i', he, hs, _⟩ := tSl_spec ht
  simp [execOp, Instr.indexAt, hi, hx, asIntOf, und_run hu, h0, h1, Go.sizeOf, typeInfo, he, hs, addr_add]
theorem x_iaA {t n e sz : Nat} (ht : tAr P t = some (n, e, sz)) {x i : Operand} {b o : Nat} {k : IntKind} {j : Int} (hx : ev σ x = .pointer (some ⟨b, o, none⟩)) (hi : ev σ i = .int k j)
    (h0 : 0 ≤ j) (h1 : j < n) : (execOp (ev σ) ⟨d, .indexAddr t x i, ty, pos, af, g⟩).run P w = .ok (.value (.pointer (some ⟨b, o + j.toNat * sz, none⟩))) w := by
  obtain ⟨hu, i', he, hs⟩ := tAr_spec ht
  simp [execOp, Instr.indexAt, hi, hx, asIntOf, und_run hu, h0, h1, Go.sizeOf, typeInfo, he, hs, addr_add, Instr.sureAddr]
theorem x_len {t e sz by' : Nat} (ht : tSl P t = some (e, sz, by')) {x : Operand} {a : Option Addr} {n c : Nat} (hx : ev σ x = .slice a n c) :
    (execOp (ev σ) ⟨d, .call ⟨.builtin .len, #[x], #[t]⟩, ty, pos, af, g⟩).run P w = .ok (.value (.int .i64 n)) w := by
  obtain ⟨hu, _⟩ := tSl_spec ht
  simp [execOp, resolve, invoke, builtin, Builtin.len_, und_run hu, hx, goInt]
theorem x_cap {t e sz by' : Nat} (ht : tSl P t = some (e, sz, by')) {x : Operand} {a : Option Addr} {n c : Nat} (hx : ev σ x = .slice a n c) :
    (execOp (ev σ) ⟨d, .call ⟨.builtin .cap, #[x], #[t]⟩, ty, pos, af, g⟩).run P w = .ok (.value (.int .i64 c)) w := by
  obtain ⟨hu, _⟩ := tSl_spec ht
  simp [execOp, resolve, invoke, builtin, Builtin.cap_, und_run hu, hx, goInt]
theorem x_lens {t : Nat} (ht : tStr P t = true) {x : Operand} {s : ByteArray} (hx : ev σ x = .string s) :
    (execOp (ev σ) ⟨d, .call ⟨.builtin .len, #[x], #[t]⟩, ty, pos, af, g⟩).run P w = .ok (.value (.int .i64 s.size)) w := by
  have hu := tStr_spec ht
  simp [execOp, resolve, invoke, builtin, Builtin.len_, und_run hu, hx, goInt]
theorem x_min {x y : Operand} {ts : Array TypeId} {k : IntKind} {a b : Int} (hx : ev σ x = .int k a) (hy : ev σ y = .int k b) :
    (execOp (ev σ) ⟨d, .call ⟨.builtin .min, #[x, y], ts⟩, ty, pos, af, g⟩).run P w = .ok (.value (.int k (if b < a then b else a))) w := by
  simp [execOp, resolve, invoke, builtin, Builtin.min_, Builtin.min2, hx, hy, List.foldlM]
theorem x_ext {i : Nat} {x : Operand} {vs : Array Value} {v : Value} (hx : ev σ x = .tuple vs) (hv : vs[i]? = some v) : (execOp (ev σ) ⟨d, .extract x i, ty, pos, af, g⟩).run P w = .ok (.value v) w := by
  simp [execOp, Instr.extract, hx, hv]
theorem x_conv {s t : Nat} {k : IntKind} (ht : tInt P t = some k) (hs : tInt P s ≠ none) {x : Operand} {k' : IntKind} {n : Int} (hx : ev σ x = .int k' n) :
    (execOp (ev σ) ⟨d, .convert s t x, ty, pos, af, g⟩).run P w = .ok (.value (.int k (k.wrap n))) w := by
  have hu := tInt_spec ht
  obtain ⟨k2, hk⟩ := Option.ne_none_iff_exists'.1 hs
  have hu' := tInt_spec hk
  simp [execOp, convert, und_run hu, und_run hu', hx, Conv.intToInt]
theorem x_not {x : Operand} {b : Bool} (hx : ev σ x = .bool b) : (execOp (ev σ) ⟨d, .unOp .not ty x, ty, pos, af, g⟩).run P w = .ok (.value (.bool !b)) w := by
  simp [execOp, Op.unary, hx]
theorem x_not' {t : Nat} {x : Operand} {b : Bool} (hx : ev σ x = .bool b) : (execOp (ev σ) ⟨d, .unOp .not t x, ty, pos, af, g⟩).run P w = .ok (.value (.bool !b)) w := by
  simp [execOp, Op.unary, hx]
theorem x_neg {t : Nat} {x : Operand} {k : IntKind} {n : Int} (hx : ev σ x = .int k n) : (execOp (ev σ) ⟨d, .unOp .neg t x, ty, pos, af, g⟩).run P w = .ok (.value (.int k (k.wrap (0 - n)))) w := by
  simp [execOp, Op.unary, hx, Op.intArith]

/-- What an operator gives of two whole numbers of a kind. -/
def binI (op : BinOp) (k : IntKind) (x y : Int) : Option Value :=
  match op with
  | .add => some (.int k (k.wrap (x + y)))
  | .sub => some (.int k (k.wrap (x - y)))
  | .mul => some (.int k (k.wrap (x * y)))
  | .and => some (.int k (k.wrap (BitVec.ofInt k.bits x &&& BitVec.ofInt k.bits y).toNat))
  | .or => some (.int k (k.wrap (BitVec.ofInt k.bits x ||| BitVec.ofInt k.bits y).toNat))
  | .xor => some (.int k (k.wrap (BitVec.ofInt k.bits x ^^^ BitVec.ofInt k.bits y).toNat))
  | .andNot => some (.int k (k.wrap (BitVec.ofInt k.bits x &&& ~~~BitVec.ofInt k.bits y).toNat))
  | .eql => some (.bool (x == y))
  | .neq => some (.bool (x != y))
  | .lss => some (.bool (decide (x < y)))
  | .leq => some (.bool (decide (x ≤ y)))
  | .gtr => some (.bool (decide (x > y)))
  | .geq => some (.bool (decide (x ≥ y)))
  | _ => none

theorem guard_int (op : BinOp) (t : TypeId) (x y : Operand) (k k' : IntKind) (a b : Int) : (eqGuard op t x y (.int k a) (.int k' b)).run P w = .ok () w := by
  unfold eqGuard
  cases op <;> simp

theorem x_bin {op : BinOp} {xt yt : Nat} {x y : Operand} {k : IntKind} {a b : Int} {v : Value} (hx : ev σ x = .int k a) (hy : ev σ y = .int k b) (hv : binI op k a b = some v) :
    (execOp (ev σ) ⟨d, .binOp op xt x y yt, ty, pos, af, g⟩).run P w = .ok (.value v) w := by
  have hg := guard_int (P := P) (w := w) op xt x y k k a b
  simp only [execOp, hx, hy, Sem.run_bind, hg, Result.andThen_ok]
  cases op <;> simp only [binI, Option.some.injEq, reduceCtorEq] at hv <;> subst hv <;> simp [binOp, Op.intArith, Op.intBits, Op.intCmp]
theorem x_quo {xt yt : Nat} {x y : Operand} {k : IntKind} {a b : Int} (hx : ev σ x = .int k a) (hy : ev σ y = .int k b) (hb : b ≠ 0) :
    (execOp (ev σ) ⟨d, .binOp .quo xt x y yt, ty, pos, af, g⟩).run P w = .ok (.value (.int k (k.wrap (a.tdiv b)))) w := by
  have hg := guard_int (P := P) (w := w) .quo xt x y k k a b
  simp only [execOp, hx, hy, Sem.run_bind, hg, Result.andThen_ok]
  simp [binOp, Op.intDiv, hb]
theorem x_rem {xt yt : Nat} {x y : Operand} {k : IntKind} {a b : Int} (hx : ev σ x = .int k a) (hy : ev σ y = .int k b) (hb : b ≠ 0) :
    (execOp (ev σ) ⟨d, .binOp .rem xt x y yt, ty, pos, af, g⟩).run P w = .ok (.value (.int k (a.tmod b))) w := by
  have hg := guard_int (P := P) (w := w) .rem xt x y k k a b
  simp only [execOp, hx, hy, Sem.run_bind, hg, Result.andThen_ok]
  simp [binOp, Op.intDiv, hb]
theorem x_shl {xt yt : Nat} {x y : Operand} {k k' : IntKind} {a b : Int} (hx : ev σ x = .int k a) (hy : ev σ y = .int k' b) (hb : 0 ≤ b) :
    (execOp (ev σ) ⟨d, .binOp .shl xt x y yt, ty, pos, af, g⟩).run P w = .ok (.value (.int k (k.wrap (a * 2 ^ min b.toNat k.bits)))) w := by
  have hg := guard_int (P := P) (w := w) .shl xt x y k k' a b
  simp only [execOp, hx, hy, Sem.run_bind, hg, Result.andThen_ok]
  simp [binOp, Op.shift, Int.not_lt.2 hb]
theorem x_shr {xt yt : Nat} {x y : Operand} {k k' : IntKind} {a b : Int} (hx : ev σ x = .int k a) (hy : ev σ y = .int k' b) (hb : 0 ≤ b) :
    (execOp (ev σ) ⟨d, .binOp .shr xt x y yt, ty, pos, af, g⟩).run P w = .ok (.value (.int k (a.fdiv (2 ^ min b.toNat k.bits)))) w := by
  have hg := guard_int (P := P) (w := w) .shr xt x y k k' a b
  simp only [execOp, hx, hy, Sem.run_bind, hg, Result.andThen_ok]
  simp [binOp, Op.shift, Int.not_lt.2 hb]

theorem guard_str (op : BinOp) (t : TypeId) (x y : Operand) (a b : ByteArray) : (eqGuard op t x y (.string a) (.string b)).run P w = .ok () w := by
  unfold eqGuard
  cases op <;> simp
theorem toList_beq (a b : ByteArray) : (a.toList == b.toList) = decide (a = b) := by
  rw [Bool.eq_iff_iff]
  simp only [beq_iff_eq, decide_eq_true_eq]
  constructor
  · intro h
    have e : ∀ c : ByteArray, c.toList = c.data.toList := Go.ByteArray.toList_eq
    rw [e, e] at h
    cases a; cases b
    simpa using h
  · intro h; rw [h]
theorem x_seq {xt yt : Nat} {x y : Operand} {a b : ByteArray} (hx : ev σ x = .string a) (hy : ev σ y = .string b) :
    (execOp (ev σ) ⟨d, .binOp .eql xt x y yt, ty, pos, af, g⟩).run P w = .ok (.value (.bool (decide (a = b)))) w := by
  have hg := guard_str (P := P) (w := w) .eql xt x y a b
  simp only [execOp, hx, hy, Sem.run_bind, hg, Result.andThen_ok]
  simp [binOp, Op.stringOp, toList_beq]
theorem x_sne {xt yt : Nat} {x y : Operand} {a b : ByteArray} (hx : ev σ x = .string a) (hy : ev σ y = .string b) :
    (execOp (ev σ) ⟨d, .binOp .neq xt x y yt, ty, pos, af, g⟩).run P w = .ok (.value (.bool (!decide (a = b)))) w := by
  have hg := guard_str (P := P) (w := w) .neq xt x y a b
  simp only [execOp, hx, hy, Sem.run_bind, hg, Result.andThen_ok]
  simp [binOp, Op.stringOp, toList_beq]
theorem x_cat {xt yt : Nat} {x y : Operand} {a b : ByteArray} (hx : ev σ x = .string a) (hy : ev σ y = .string b) (hl : a.size + b.size ≤ 9223372036854775807) :
    (execOp (ev σ) ⟨d, .binOp .add xt x y yt, ty, pos, af, g⟩).run P w = .ok (.value (.string (a ++ b))) w := by
  have hg := guard_str (P := P) (w := w) .add xt x y a b
  simp only [execOp, hx, hy, Sem.run_bind, hg, Result.andThen_ok]
  have hn : ¬ (((a.size + b.size : Nat) : Int) > IntKind.i64.max) := by
    have e : IntKind.i64.max = 9223372036854775807 := rfl
    rw [e]; omega
  simp only [binOp, Op.stringOp, Sem.run_bind, Sem.run_ite, if_neg hn, Sem.run_pure, Result.andThen_ok]
theorem x_idxs {t : Nat} (ht : tStr P t = true) {x i : Operand} {s : ByteArray} {k : IntKind} {j : Int} {c : UInt8} (hx : ev σ x = .string s) (hi : ev σ i = .int k j) (h0 : 0 ≤ j) (hc : s[j.toNat]? = some c) :
    (execOp (ev σ) ⟨d, .index t x i, ty, pos, af, g⟩).run P w = .ok (.value (.int .u8 c.toNat)) w := by
  have hu := tStr_spec ht
  simp [execOp, Instr.index, hi, hx, asIntOf, und_run hu, h0, hc]
theorem x_idxA {t n e sz : Nat} (ht : tAr P t = some (n, e, sz)) (he : tSc P e = true) (hsz : sz = 1) {x i : Operand} {cs : Array Value} {k : IntKind} {j : Int} {v : Value} (hx : ev σ x = .agg cs) (hi : ev σ i = .int k j) (h0 : 0 ≤ j) (h1 : j < n) (hv : cs[j.toNat]? = some v) :
    (execOp (ev σ) ⟨d, .index t x i, ty, pos, af, g⟩).run P w = .ok (.value v) w := by
  obtain ⟨hu, i', hi', hs⟩ := tAr_spec ht
  subst hsz
  simp [execOp, Instr.index, hi, hx, asIntOf, und_run hu, h0, h1, Go.sizeOf, typeInfo, hi', hs, part, tSc_spec he, hv]
theorem x_fld {s f off t : Nat} (hf : tF P s f = some (off, t)) (ht : tSc P t = true) {x : Operand} {cs : Array Value} {v : Value} (hx : ev σ x = .agg cs) (hv : cs[off]? = some v) :
    (execOp (ev σ) ⟨d, .field s x f, ty, pos, af, g⟩).run P w = .ok (.value v) w := by
  obtain ⟨fs, q, h1, h2, rfl, rfl, h3⟩ := tF_spec hf
  simp [execOp, Instr.field, und_run h1, h2, hx, asAgg, part, tSc_spec ht, hv]
theorem x_fldA {s f off t n : Nat} (hf : tF P s f = some (off, t)) (ht : tAg P t = some n) {x : Operand} {cs : Array Value} (hx : ev σ x = .agg cs) :
    (execOp (ev σ) ⟨d, .field s x f, ty, pos, af, g⟩).run P w = .ok (.value (.agg (cs.extract off (off + n)))) w := by
  obtain ⟨fs, q, h1, h2, rfl, rfl, h3⟩ := tF_spec hf
  obtain ⟨h4, h5⟩ := tAg_spec (P := P) (w := w) ht
  simp [execOp, Instr.field, und_run h1, h2, hx, asAgg, part, h4, h5]
theorem eqPN (n : Nat) {t e : Nat} (ht : P.underlying t = some (.pointer e)) (a : Option Addr) : (Op.equalIn (n + 1) t (.pointer a) (.pointer none)).run P w = .ok a.isNone w := by
  cases a <;> simp [Op.equalIn, und_run ht]
theorem eqNP (n : Nat) {t e : Nat} (ht : P.underlying t = some (.pointer e)) (a : Option Addr) : (Op.equalIn (n + 1) t (.pointer none) (.pointer a)).run P w = .ok a.isNone w := by
  cases a <;> simp [Op.equalIn, und_run ht]
theorem eqSN (n : Nat) {t e : Nat} (ht : P.underlying t = some (.slice e)) (a : Option Addr) (l c : Nat) : (Op.equalIn (n + 1) t (.slice a l c) (.slice none 0 0)).run P w = .ok a.isNone w := by
  cases a <;> simp [Op.equalIn, und_run ht]
theorem eqBB (n : Nat) {t : Nat} (ht : P.underlying t = some .bool) (a b : Bool) : (Op.equalIn (n + 1) t (.bool a) (.bool b)).run P w = .ok (a == b) w := by
  simp [Op.equalIn, und_run ht]
/-- A comparison by what '==' gives of the two values. -/
theorem x_eq {t yt : Nat} {x y : Operand} {u v : Value} {r : Bool} (hx : ev σ x = u) (hy : ev σ y = v) (hg : ∀ op, (eqGuard op t x y u v).run P w = .ok () w)
    (hb : ∀ op, op = .eql ∨ op = .neq → binOp op t u v = (Op.equal t u v >>= fun r => pure (Value.bool (if op = BinOp.eql then r else !r)))) (hr : (Op.equal t u v).run P w = .ok r w) :
    (execOp (ev σ) ⟨d, .binOp .eql t x y yt, ty, pos, af, g⟩).run P w = .ok (.value (.bool r)) w ∧ (execOp (ev σ) ⟨d, .binOp .neq t x y yt, ty, pos, af, g⟩).run P w = .ok (.value (.bool !r)) w := by
  constructor
  · simp only [execOp, hx, hy, Sem.run_bind, hg, Result.andThen_ok]
    rw [hb .eql (.inl rfl)]
    simp [hr]
  · simp only [execOp, hx, hy, Sem.run_bind, hg, Result.andThen_ok]
    rw [hb .neq (.inr rfl)]
    simp [hr]
theorem x_pnil {t yt e : Nat} (ht : P.underlying t = some (.pointer e)) {x y : Operand} {a : Option Addr} (hx : ev σ x = .pointer a) (hy : ev σ y = .pointer none) :
    (execOp (ev σ) ⟨d, .binOp .eql t x y yt, ty, pos, af, g⟩).run P w = .ok (.value (.bool a.isNone)) w :=
  (x_eq hx hy (fun op => by unfold eqGuard; cases op <;> simp) (fun op h => by rcases h with rfl | rfl <;> rfl) (eqPN 9999 ht a)).1
theorem x_pnnil {t yt e : Nat} (ht : P.underlying t = some (.pointer e)) {x y : Operand} {a : Option Addr} (hx : ev σ x = .pointer a) (hy : ev σ y = .pointer none) :
    (execOp (ev σ) ⟨d, .binOp .neq t x y yt, ty, pos, af, g⟩).run P w = .ok (.value (.bool !a.isNone)) w :=
  (x_eq hx hy (fun op => by unfold eqGuard; cases op <;> simp) (fun op h => by rcases h with rfl | rfl <;> rfl) (eqPN 9999 ht a)).2
theorem x_beq {t yt : Nat} (ht : P.underlying t = some .bool) {x y : Operand} {a b : Bool} (hx : ev σ x = .bool a) (hy : ev σ y = .bool b) :
    (execOp (ev σ) ⟨d, .binOp .eql t x y yt, ty, pos, af, g⟩).run P w = .ok (.value (.bool (a == b))) w :=
  (x_eq hx hy (fun op => by unfold eqGuard; cases op <;> simp) (fun op h => by rcases h with rfl | rfl <;> rfl) (eqBB 9999 ht a b)).1
theorem x_bne {t yt : Nat} (ht : P.underlying t = some .bool) {x y : Operand} {a b : Bool} (hx : ev σ x = .bool a) (hy : ev σ y = .bool b) :
    (execOp (ev σ) ⟨d, .binOp .neq t x y yt, ty, pos, af, g⟩).run P w = .ok (.value (.bool (!(a == b)))) w :=
  (x_eq hx hy (fun op => by unfold eqGuard; cases op <;> simp) (fun op h => by rcases h with rfl | rfl <;> rfl) (eqBB 9999 ht a b)).2

/-! ### Loads -/

theorem x_ld {t : TypeId} (ht : tSc P t = true) {x : Operand} {a : Addr} {v : Value} (hx : ev σ x = .pointer (some a)) (hc : w.cell? a = some v) :
    (execOp (ev σ) ⟨d, .load t x, ty, pos, af, g⟩).run P w = .ok (.value v) w := by
  simp [execOp, Instr.loadAt, hx, Instr.sureAddr, loadVar, tSc_spec ht, hc]
theorem x_ldA {t n : Nat} (ht : tAg P t = some n) {x : Operand} {b o : Nat} {cs : List Value} (hx : ev σ x = .pointer (some ⟨b, o, none⟩)) (hc : ∀ j u, cs[j]? = some u → w.cell? ⟨b, o + j, none⟩ = some u) (hn : cs.length = n) :
    (execOp (ev σ) ⟨d, .load t x, ty, pos, af, g⟩).run P w = .ok (.value (.agg cs.toArray)) w := by
  obtain ⟨h4, h5⟩ := tAg_spec (P := P) (w := w) ht
  subst hn
  have hl := run_loadCells_list (P := P) w ⟨b, o, none⟩ cs (fun j u hj => by rw [addr_add]; exact hc j u hj)
  simp [execOp, Instr.loadAt, hx, Instr.sureAddr, loadVar, h4, h5, hl]

/-! ### Calls -/

theorem x_call {f : FuncId} (hf : fB P f = true) {xs : Array Operand} {ts : Array TypeId} : (execOp (ev σ) ⟨d, .call ⟨.value (.func f), xs, ts⟩, ty, pos, af, g⟩).run P w = .ok (.enter f (xs.map (ev σ))) w := by
  unfold fB at hf
  cases hq : P.funcs[f]? with
  | none => simp [hq] at hf
  | some fn =>
    simp only [hq, Bool.and_eq_true, Bool.not_eq_true', Option.isSome_iff_ne_none] at hf
    have hb : ¬ fn.body = none := hf.2
    have hn : ¬ fn.name = "runtime.NumGoroutine" := by simpa using hf.1
    simp [execOp, resolve, ev, Deferred.ofValue, invoke, callFunc, hq, hn, hb]
theorem x_callv {x : Operand} {f : FuncId} {cap : Array Value} (hx : ev σ x = .func (.func f) #[] cap) (hf : fB P f = true) {xs : Array Operand} {ts : Array TypeId} :
    (execOp (ev σ) ⟨d, .call ⟨.value x, xs, ts⟩, ty, pos, af, g⟩).run P w = .ok (.enter f (xs.map (ev σ) ++ cap)) w := by
  unfold fB at hf
  cases hq : P.funcs[f]? with
  | none => simp [hq] at hf
  | some fn =>
    simp only [hq, Bool.and_eq_true, Bool.not_eq_true', Option.isSome_iff_ne_none] at hf
    have hb : ¬ fn.body = none := hf.2
    have hn : ¬ fn.name = "runtime.NumGoroutine" := by simpa using hf.1
    simp [execOp, resolve, hx, Deferred.ofValue, invoke, callFunc, hq, hn, hb]

/-! ### Cuts of strings and slices -/

theorem x_cuts {t : Nat} (ht : tStr P t = true) {x : Operand} {lo hi : Option Operand} {s : ByteArray} (hx : ev σ x = .string s) (a b : Nat)
    (hlo : ∀ y, lo = some y → ∃ k, ev σ y = .int k a) (hlo' : lo = none → a = 0) (hhi : ∀ y, hi = some y → ∃ k, ev σ y = .int k b) (hhi' : hi = none → b = s.size) (hab : a ≤ b) (hb : b ≤ s.size) :
    (execOp (ev σ) ⟨d, .slice t x lo hi none, ty, pos, af, g⟩).run P w = .ok (.value (.string (s.extract a b))) w := by
  have hu := tStr_spec ht
  have b1 : ∀ code, (Instr.sliceBound (.int .i64 b) s.size code).run P w = .ok b w := fun code => by
    simp [Instr.sliceBound, asIntOf, hb]
  cases lo with
  | none =>
    obtain rfl := hlo' rfl
    cases hi with
    | none =>
      obtain rfl := hhi' rfl
      simp [execOp, Instr.sliceAt, Instr.slice, und_run hu, hx, Instr.sliceBounds]
    | some y =>
      obtain ⟨k, hk⟩ := hhi y rfl
      simp [execOp, Instr.sliceAt, Instr.slice, und_run hu, hx, Instr.sliceBounds, hk, Instr.sliceBound, asIntOf, hb]
  | some z =>
    obtain ⟨k', hk'⟩ := hlo z rfl
    cases hi with
    | none =>
      obtain rfl := hhi' rfl
      simp [execOp, Instr.sliceAt, Instr.slice, und_run hu, hx, Instr.sliceBounds, hk', Instr.sliceBound, asIntOf, hab]
    | some y =>
      obtain ⟨k, hk⟩ := hhi y rfl
      simp [execOp, Instr.sliceAt, Instr.slice, und_run hu, hx, Instr.sliceBounds, hk, hk', Instr.sliceBound, asIntOf, hb, hab]

theorem x_cut {t e sz by' : Nat} (ht : tSl P t = some (e, sz, by')) {x : Operand} {lo hi : Option Operand} {ad : Option Addr} {n c : Nat} (hx : ev σ x = .slice ad n c) (a b : Nat)
    (hlo : ∀ y, lo = some y → ∃ k, ev σ y = .int k a) (hlo' : lo = none → a = 0) (hhi : ∀ y, hi = some y → ∃ k, ev σ y = .int k b) (hhi' : hi = none → b = n) (hab : a ≤ b) (hb : b ≤ c) :
    (execOp (ev σ) ⟨d, .slice t x lo hi none, ty, pos, af, g⟩).run P w = .ok (.value (.slice (if c = a then ad else ad.map (·.add (a * sz))) (b - a) (c - a))) w := by
  obtain ⟨hu, i', he, hs, _⟩ := tSl_spec ht
  cases lo with
  | none =>
    obtain rfl := hlo' rfl
    cases hi with
    | none =>
      obtain rfl := hhi' rfl
      simp [execOp, Instr.sliceAt, Instr.slice, und_run hu, hx, Instr.sliceBounds, Go.sizeOf, typeInfo, he, hs]
    | some y =>
      obtain ⟨k, hk⟩ := hhi y rfl
      simp [execOp, Instr.sliceAt, Instr.slice, und_run hu, hx, Instr.sliceBounds, hk, Instr.sliceBound, asIntOf, hb, Go.sizeOf, typeInfo, he, hs]
  | some z =>
    obtain ⟨k', hk'⟩ := hlo z rfl
    cases hi with
    | none =>
      obtain rfl := hhi' rfl
      simp [execOp, Instr.sliceAt, Instr.slice, und_run hu, hx, Instr.sliceBounds, hk', Instr.sliceBound, asIntOf, hab, Go.sizeOf, typeInfo, he, hs]
    | some y =>
      obtain ⟨k, hk⟩ := hhi y rfl
      simp [execOp, Instr.sliceAt, Instr.slice, und_run hu, hx, Instr.sliceBounds, hk, hk', Instr.sliceBound, asIntOf, hb, hab, Go.sizeOf, typeInfo, he, hs]

/-! ### Operations that turn the world -/

theorem x_all {e : TypeId} {z : List Value} (hz : tZ P e = some z) : (execOp (ev σ) ⟨d, .alloc e, ty, pos, af, g⟩).run P w = .ok (.value (.pointer (some ⟨w.heap.size, 0, none⟩))) (w.alloc (.cells z.toArray e)) := by
  obtain ⟨i, v, h1, h2, h3, h4, h5⟩ := tZ_spec (P := P) (w := w) hz
  subst h3
  simp [execOp, Instr.alloc, h5, newVar, newRow]
theorem x_box {e : TypeId} {x : Operand} : (execOp (ev σ) ⟨d, .box e x, ty, pos, af, g⟩).run P w = .ok (.value (.pointer (some ⟨w.heap.size, 0, none⟩))) (w.alloc (.cells (ev σ x).cells e)) := by
  simp [execOp, Instr.box, newVar, newRow]

end
end
end Sp
