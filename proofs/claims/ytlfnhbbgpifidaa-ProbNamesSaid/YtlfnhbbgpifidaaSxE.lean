/- More operations: addresses of elements, slices, numbers, strings, functions, tuples, aggregates. -/
import Derived.Test.YtlfnhbbgpifidaaSxD
namespace Go.Proofs.Ytlfnhbbgpifidaa.Sx
set_option linter.unusedVariables false
set_option linter.unusedSimpArgs false
open Go.RowKit

section
variable {cx : Cx} {T : List V} {h : List Blk} {K Kp : KV} {o : Oper}

theorem st_indexAddr_arr_ptr (t : TypeId) (x y : Operand) (ho : o.op = .indexAddr t x y) {b off : Nat} (hx : eo cx T x = .ptr b off) {k i} (hy : eo cx T y = .int k i) {len et} (hel : el cx.P t = .arr len et) {n ag} (ht : ti cx.P et = some (n, ag))
    (h0 : 0 ≤ i) (h1 : i < len) (hK : K (.ptr b (off + i.toNat * n)) h) : StepOk cx o T h K Kp := by
  intro g w0 own a w Q hG hT hH _
  obtain ⟨c, hc, e⟩ := (hx ▸ eo_R hG hT x).ptr_inv
  have ey := (hy ▸ eo_R hG hT y).int_inv
  refine wp_val (u := .pointer (some ⟨c, off + i.toNat * n, none⟩)) ?_ hK (.ptr _ hc) hH
  simp [execOp, ho, e, ey, Instr.indexAt, asIntOf, run_underlying (el_arr hel), Instr.sureAddr, h0, h1, (ti_spec ht w).1, Result.andThen, add_mk]

theorem st_indexAddr_arr_fp (t : TypeId) (x y : Operand) (ho : o.op = .indexAddr t x y) {cs : List V} (hx : eo cx T x = .fp cs) {k i} (hy : eo cx T y = .int k i) {len et} (hel : el cx.P t = .arr len et) {n ag} (ht : ti cx.P et = some (n, ag))
    (h0 : 0 ≤ i) (h1 : i < len) (hK : K (.fp (cs.drop (i.toNat * n))) h) : StepOk cx o T h K Kp := by
  intro g w0 own a w Q hG hT hH _
  obtain ⟨ad, e, hsp, hcs⟩ := (hx ▸ eo_R hG hT x).fp_inv
  have ey := (hy ▸ eo_R hG hT y).int_inv
  refine wp_val (u := .pointer (some (ad.add (i.toNat * n)))) ?_ hK (.fp (by rw [add_plain hsp]) fun j y hy => ?_) hH
  · simp [execOp, ho, e, ey, Instr.indexAt, asIntOf, run_underlying (el_arr hel), Instr.sureAddr, h0, h1, (ti_spec ht w).1, Result.andThen]
  · rw [List.getElem?_drop] at hy
    obtain ⟨u, hu, hr⟩ := hcs _ y hy
    refine ⟨u, ?_, hr⟩
    rw [add_plain hsp] at hu ⊢
    rw [add_mk, ← hu]
    congr 2
    omega

theorem st_indexAddr_ms (t : TypeId) (x y : Operand) (ho : o.op = .indexAddr t x y) {sz b off len : Nat} (hx : eo cx T x = .ms sz b off len) {k i} (hy : eo cx T y = .int k i) {et} (hel : el cx.P t = .slc et) {ag} (ht : ti cx.P et = some (sz, ag))
    (h0 : 0 ≤ i) (h1 : i < len) (hK : K (.ptr b (off + i.toNat * sz)) h) : StepOk cx o T h K Kp := by
  intro g w0 own a w Q hG hT hH _
  obtain ⟨c, cap, hc, _, _, e⟩ := (hx ▸ eo_R hG hT x).ms_inv
  have ey := (hy ▸ eo_R hG hT y).int_inv
  refine wp_val (u := .pointer (some ⟨c, off + i.toNat * sz, none⟩)) ?_ hK (.ptr _ hc) hH
  simp [execOp, ho, e, ey, Instr.indexAt, asIntOf, run_underlying (el_slc hel), h0, h1, (ti_spec ht w).1, Result.andThen, add_mk]

theorem st_indexAddr_fl (t : TypeId) (x y : Operand) (ho : o.op = .indexAddr t x y) {sz : Nat} {l : List V} {tok} (hx : eo cx T x = .fl sz l tok) {k i} (hy : eo cx T y = .int k i) {et} (hel : el cx.P t = .slc et) {ag} (ht : ti cx.P et = some (sz, ag))
    (h0 : 0 ≤ i) {z : V} (h1 : l[i.toNat]? = some z) (hK : K (.fp z.flat) h) : StepOk cx o T h K Kp := by
  intro g w0 own a w Q hG hT hH _
  obtain ⟨hD, _⟩ := (hx ▸ eo_R hG hT x).fl_inv
  have ey := (hy ▸ eo_R hG hT y).int_inv
  obtain ⟨aa, cap, e, hcap, hl⟩ := hD.fl_inv
  have hi : i.toNat < l.length := (List.getElem?_eq_some_iff.1 h1).1
  obtain ⟨ad, rfl, hsp, hl⟩ := hl (by intro e; subst e; simp at hi)
  obtain ⟨hz, hc⟩ := hl _ z h1
  refine wp_val (u := .pointer (some (ad.add (i.toNat * sz)))) ?_ hK (.fp (by rw [add_plain hsp]) fun j y hy => ?_) hH
  · simp [execOp, ho, e, ey, Instr.indexAt, asIntOf, run_underlying (el_slc hel), h0, show i < (l.length : Int) by omega, (ti_spec ht w).1, Result.andThen]
  · obtain ⟨u, hu, hr⟩ := hc j y hy
    refine ⟨u, ?_, hr⟩
    rw [add_plain hsp] at hu ⊢
    rw [add_mk, ← hu]
    congr 2
    omega

/-! Lengths. -/
def vlen : V → Option Nat
  | .nils => some 0
  | .fl _ l _ => some l.length
  | .ms _ _ _ n => some n
  | .str s => some s.size
  | _ => none
theorem st_len (x : Operand) (t : TypeId) (ho : o.op = .call { callee := .builtin .len, args := #[x], argTypes := #[t] }) {n : Nat} (hn : vlen (eo cx T x) = some n)
    (hel : (match el cx.P t, eo cx T x with | .str, .str _ => true | .slc _, .str _ => false | .slc _, _ => true | _, _ => false) = true) (hK : K (.int .i64 n) h) : StepOk cx o T h K Kp := by
  intro g w0 own a w Q hG hT hH _
  have hR := eo_R hG hT x
  refine wp_val (u := .int .i64 n) ?_ hK (.data (.int _ _)) hH
  generalize eo cx T x = xv at *
  cases xv with
  | nils =>
    obtain ⟨aa, e⟩ := hR.nils_inv
    simp only [vlen, Option.some.injEq] at hn; subst hn
    cases hel' : el cx.P t <;> rw [hel'] at hel <;> first | (cases hel; done) | skip
    simp [execOp, ho, resolve, invoke, builtin, Builtin.len_, e, run_underlying (el_slc hel'), Result.andThen, goInt]
  | fl sz l tok =>
    obtain ⟨aa, cap, e, _⟩ := hR.fl_inv.1.fl_inv
    simp only [vlen, Option.some.injEq] at hn; subst hn
    cases hel' : el cx.P t <;> rw [hel'] at hel <;> first | (cases hel; done) | skip
    simp [execOp, ho, resolve, invoke, builtin, Builtin.len_, e, run_underlying (el_slc hel'), Result.andThen, goInt]
  | ms sz b off len =>
    obtain ⟨c, cap, _, _, _, e⟩ := hR.ms_inv
    simp only [vlen, Option.some.injEq] at hn; subst hn
    cases hel' : el cx.P t <;> rw [hel'] at hel <;> first | (cases hel; done) | skip
    simp [execOp, ho, resolve, invoke, builtin, Builtin.len_, e, run_underlying (el_slc hel'), Result.andThen, goInt]
  | str s =>
    have e := hR.str_inv
    simp only [vlen, Option.some.injEq] at hn; subst hn
    cases hel' : el cx.P t <;> rw [hel'] at hel <;> first | (cases hel; done) | skip
    simp [execOp, ho, resolve, invoke, builtin, Builtin.len_, e, run_underlying (el_str hel'), Result.andThen, goInt]
  | _ => cases hn

/-! Numbers. -/
def bits (op : BinOp) (k : IntKind) (x y : Int) : Int :=
  let a := BitVec.ofInt k.bits x
  let b := BitVec.ofInt k.bits y
  k.wrap (match op with | .and => (a &&& b).toNat | .or => (a ||| b).toNat | .xor => (a ^^^ b).toNat | _ => (a &&& ~~~b).toNat : Nat)

/-- An operation on two numbers: what it needs, and its value. -/
def num2 (op : BinOp) (k : IntKind) (x y : Int) : Prop × V :=
  match op with
  | .add => (True, .int k (k.wrap (x + y)))
  | .sub => (True, .int k (k.wrap (x - y)))
  | .mul => (True, .int k (k.wrap (x * y)))
  | .quo => (y ≠ 0, .int k (k.wrap (x.tdiv y)))
  | .rem => (y ≠ 0, .int k (x.tmod y))
  | .and => (True, .int k (bits .and k x y))
  | .or => (True, .int k (bits .or k x y))
  | .xor => (True, .int k (bits .xor k x y))
  | .andNot => (True, .int k (bits .andNot k x y))
  | .eql => (True, .bool (x == y))
  | .neq => (True, .bool (x != y))
  | .lss => (True, .bool (decide (x < y)))
  | .leq => (True, .bool (decide (x ≤ y)))
  | .gtr => (True, .bool (decide (x > y)))
  | .geq => (True, .bool (decide (x ≥ y)))
  | _ => (False, .any)

theorem eqGuard_int (P : Program) (w : World) (op t x y k a k' b) : (eqGuard op t x y (.int k a) (.int k' b)).run P w = .ok () w := by
  unfold eqGuard; cases op <;> rfl
theorem eqGuard_bool (P : Program) (w : World) (op t x y a b) : (eqGuard op t x y (.bool a) (.bool b)).run P w = .ok () w := by
  unfold eqGuard; cases op <;> rfl
theorem eqGuard_str (P : Program) (w : World) (op t x y a b) : (eqGuard op t x y (.string a) (.string b)).run P w = .ok () w := by
  unfold eqGuard; cases op <;> rfl
theorem eqGuard_ptr (P : Program) (w : World) (op t x y a b) : (eqGuard op t x y (.pointer a) (.pointer b)).run P w = .ok () w := by
  unfold eqGuard; cases op <;> rfl

theorem st_num2 (op : BinOp) (t : TypeId) (x y : Operand) (yt : TypeId) (ho : o.op = .binOp op t x y yt) {k : IntKind} {i j : Int} (hx : eo cx T x = .int k i) (hy : eo cx T y = .int k j) (hsh : op ≠ .shl ∧ op ≠ .shr)
    (hc : (num2 op k i j).1) (hK : K (num2 op k i j).2 h) : StepOk cx o T h K Kp := by
  intro g w0 own a w Q hG hT hH _
  have ex := (hx ▸ eo_R hG hT x).int_inv
  have ey := (hy ▸ eo_R hG hT y).int_inv
  have key : ∃ u, (execOp a.eval o).run cx.P w = .ok (.value u) w ∧ R g (num2 op k i j).2 u := by
    simp only [execOp, ho, ex, ey]
    cases op <;> simp only [num2] at hc ⊢ <;> first
      | exact hc.elim
      | exact absurd rfl hsh.1
      | exact absurd rfl hsh.2
      | (refine ⟨.int k _, ?_, .data (.int _ _)⟩
         simp [eqGuard_int, binOp, Op.intArith, Op.intDiv, Op.intBits, Result.andThen, bits, hc]
         done)
      | (refine ⟨.bool _, ?_, .data (.bool _)⟩
         simp [eqGuard_int, binOp, Op.intCmp, Result.andThen]
         done)
  obtain ⟨u, h1, h2⟩ := key
  exact wp_val h1 hK h2 hH

/-- A shift. -/
def shf (op : BinOp) (k : IntKind) (x y : Int) : Int :=
  match op with
  | .shl => k.wrap (x * 2 ^ (min y.toNat k.bits))
  | _ => x.fdiv (2 ^ (min y.toNat k.bits))
theorem st_shift (op : BinOp) (t : TypeId) (x y : Operand) (yt : TypeId) (ho : o.op = .binOp op t x y yt) {k k' : IntKind} {i j : Int} (hx : eo cx T x = .int k i) (hy : eo cx T y = .int k' j) (hsh : op = .shl ∨ op = .shr)
    (hc : 0 ≤ j) (hK : K (.int k (shf op k i j)) h) : StepOk cx o T h K Kp := by
  intro g w0 own a w Q hG hT hH _
  have ex := (hx ▸ eo_R hG hT x).int_inv
  have ey := (hy ▸ eo_R hG hT y).int_inv
  have hj : ¬ j < 0 := by omega
  refine wp_val (u := .int k (shf op k i j)) ?_ hK (.data (.int _ _)) hH
  rcases hsh with rfl | rfl <;> simp [execOp, ho, ex, ey, eqGuard_int, binOp, Op.shift, hj, shf, Result.andThen]

theorem eqIn_bool {P : Program} {w : World} (d : Nat) {t : TypeId} (hu : P.underlying t = some .bool) (a b : Bool) : (Op.equalIn (d + 1) t (.bool a) (.bool b)).run P w = .ok (a == b) w := by
  simp only [Op.equalIn, Sem.run_bind, run_underlying hu, Result.andThen]; rfl
theorem eqIn_ptr {P : Program} {w : World} (d : Nat) {t : TypeId} {e} (hu : P.underlying t = some (.pointer e)) (p q : Option Addr) (h : p = none ∨ q = none) : (Op.equalIn (d + 1) t (.pointer p) (.pointer q)).run P w = .ok (p.isNone && q.isNone) w := by
  simp only [Op.equalIn, Sem.run_bind, run_underlying hu, Result.andThen]
  cases p <;> cases q <;> first | rfl | simp at h
theorem equal_def (t : TypeId) (x y : Value) : Op.equal t x y = Op.equalIn (9999 + 1) t x y := rfl

theorem st_bool2 (op : BinOp) (t : TypeId) (x y : Operand) (yt : TypeId) (ho : o.op = .binOp op t x y yt) {i j : Bool} (hx : eo cx T x = .bool i) (hy : eo cx T y = .bool j) (hu : cx.P.underlying t = some .bool) (hop : op = .eql ∨ op = .neq)
    (hK : K (.bool (match op with | .eql => i == j | _ => i != j)) h) : StepOk cx o T h K Kp := by
  intro g w0 own a w Q hG hT hH _
  have ex := (hx ▸ eo_R hG hT x).bool_inv
  have ey := (hy ▸ eo_R hG hT y).bool_inv
  rcases hop with rfl | rfl
  · refine wp_val (u := .bool (i == j)) ?_ hK (.data (.bool _)) hH
    simp only [execOp, ho, ex, ey, Sem.run_bind, eqGuard_bool, binOp, equal_def, eqIn_bool 9999 hu, Result.andThen, Sem.run_pure]
  · refine wp_val (u := .bool (i != j)) ?_ hK (.data (.bool _)) hH
    simp only [execOp, ho, ex, ey, Sem.run_bind, eqGuard_bool, binOp, equal_def, eqIn_bool 9999 hu, Result.andThen, Sem.run_pure, bne]

theorem st_str2 (op : BinOp) (t : TypeId) (x y : Operand) (yt : TypeId) (ho : o.op = .binOp op t x y yt) {i j : ByteArray} (hx : eo cx T x = .str i) (hy : eo cx T y = .str j) (hop : op = .eql ∨ op = .neq)
    (hK : K (.bool (match op with | .eql => i.toList == j.toList | _ => i.toList != j.toList)) h) : StepOk cx o T h K Kp := by
  intro g w0 own a w Q hG hT hH _
  have ex := (hx ▸ eo_R hG hT x).str_inv
  have ey := (hy ▸ eo_R hG hT y).str_inv
  rcases hop with rfl | rfl
  · refine wp_val (u := .bool (i.toList == j.toList)) ?_ hK (.data (.bool _)) hH
    simp [execOp, ho, ex, ey, eqGuard_str, binOp, Op.stringOp, Result.andThen]
  · refine wp_val (u := .bool (i.toList != j.toList)) ?_ hK (.data (.bool _)) hH
    simp [execOp, ho, ex, ey, eqGuard_str, binOp, Op.stringOp, Result.andThen, bne]

theorem st_strAdd (t : TypeId) (x y : Operand) (yt : TypeId) (ho : o.op = .binOp .add t x y yt) {i j : ByteArray} (hx : eo cx T x = .str i) (hy : eo cx T y = .str j) (hs : i.size + j.size ≤ 9223372036854775807)
    (hK : K (.str (i ++ j)) h) : StepOk cx o T h K Kp := by
  intro g w0 own a w Q hG hT hH _
  have ex := (hx ▸ eo_R hG hT x).str_inv
  have ey := (hy ▸ eo_R hG hT y).str_inv
  refine wp_val (u := .string (i ++ j)) ?_ hK (.data (.str _)) hH
  have hn : ¬ (((i.size + j.size : Nat) : Int) > IntKind.i64.max) := by
    have : IntKind.i64.max = 9223372036854775807 := rfl
    omega
  simp only [execOp, ho, ex, ey, Sem.run_bind, eqGuard_str, binOp, Op.stringOp, Result.andThen, Sem.run_ite, if_neg hn, Sem.run_pure]

/-- A pointer held against nil. -/
def V.isNil : V → Option Bool
  | .nilp => some true
  | .ptr _ _ | .fp _ => some false
  | _ => none
theorem st_ptrNil (op : BinOp) (t : TypeId) (x y : Operand) (yt : TypeId) (ho : o.op = .binOp op t x y yt) {i j : Bool} (hx : (eo cx T x).isNil = some i) (hy : (eo cx T y).isNil = some j) {e} (hu : cx.P.underlying t = some (.pointer e)) (hop : op = .eql ∨ op = .neq) (hij : i = true ∨ j = true)
    (hK : K (.bool (match op with | .eql => i && j | _ => !(i && j))) h) : StepOk cx o T h K Kp := by
  intro g w0 own a w Q hG hT hH _
  have shape : ∀ (z : Operand) (b : Bool), (eo cx T z).isNil = some b → ∃ p, a.eval z = .pointer p ∧ p.isNone = b := by
    intro z b hz
    have hR := eo_R hG hT z
    generalize eo cx T z = zv at *
    cases zv with
    | nilp => cases hz; exact ⟨none, hR.nilp_inv, rfl⟩
    | ptr b' off => cases hz; obtain ⟨c, _, e⟩ := hR.ptr_inv; exact ⟨_, e, rfl⟩
    | fp cs => cases hz; obtain ⟨ad, e, _⟩ := hR.fp_inv; exact ⟨_, e, rfl⟩
    | _ => cases hz
  obtain ⟨p, ep, hp⟩ := shape x i hx
  obtain ⟨q, eq, hq⟩ := shape y j hy
  subst hp hq
  have hpq : p = none ∨ q = none := hij.imp Option.isNone_iff_eq_none.1 Option.isNone_iff_eq_none.1
  rcases hop with rfl | rfl
  · refine wp_val (u := .bool (p.isNone && q.isNone)) ?_ hK (.data (.bool _)) hH
    simp only [execOp, ho, ep, eq, Sem.run_bind, eqGuard_ptr, binOp, equal_def, eqIn_ptr 9999 hu p q hpq, Result.andThen, Sem.run_pure]
  · refine wp_val (u := .bool (!(p.isNone && q.isNone))) ?_ hK (.data (.bool _)) hH
    simp only [execOp, ho, ep, eq, Sem.run_bind, eqGuard_ptr, binOp, equal_def, eqIn_ptr 9999 hu p q hpq, Result.andThen, Sem.run_pure]

theorem st_not (t : TypeId) (x : Operand) (ho : o.op = .unOp .not t x) {b : Bool} (hx : eo cx T x = .bool b) (hK : K (.bool !b) h) : StepOk cx o T h K Kp := by
  intro g w0 own a w Q hG hT hH _
  have ex := (hx ▸ eo_R hG hT x).bool_inv
  exact wp_val (u := .bool !b) (by simp [execOp, ho, ex, Op.unary, Result.andThen]) hK (.data (.bool _)) hH
theorem st_neg (t : TypeId) (x : Operand) (ho : o.op = .unOp .neg t x) {k i} (hx : eo cx T x = .int k i) (hK : K (.int k (k.wrap (0 - i))) h) : StepOk cx o T h K Kp := by
  intro g w0 own a w Q hG hT hH _
  have ex := (hx ▸ eo_R hG hT x).int_inv
  exact wp_val (u := .int k (k.wrap (0 - i))) (by simp [execOp, ho, ex, Op.unary, Op.intArith, Result.andThen]) hK (.data (.int _ _)) hH

theorem st_convInt (s d : TypeId) (x : Operand) (ho : o.op = .convert s d x) {k i} (hx : eo cx T x = .int k i) {k' : IntKind} (hd : cx.P.underlying d = some (.int k')) {e} (hs : cx.P.underlying s = some e) (hK : K (.int k' (k'.wrap i)) h) : StepOk cx o T h K Kp := by
  intro g w0 own a w Q hG hT hH _
  have ex := (hx ▸ eo_R hG hT x).int_inv
  exact wp_val (u := .int k' (k'.wrap i)) (by simp [execOp, ho, ex, convert, run_underlying hd, run_underlying hs, Conv.intToInt, Result.andThen]) hK (.data (.int _ _)) hH

theorem eo_list {cx : Cx} {g : Gh} {T : List V} {a : Act} (hG : GOk cx g) (hT : RelT g T a.tmps) (xs : Array Operand) : (xs.toList.map (eo cx T)).length = (xs.map a.eval).size ∧
    ∀ (i : Nat) x u, (xs.toList.map (eo cx T))[i]? = some x → (xs.map a.eval)[i]? = some u → R g x u := by
  refine ⟨by simp, fun i x u hx hu => ?_⟩
  simp only [List.getElem?_map, Array.getElem?_toList, Option.map_eq_some_iff, Array.getElem?_map] at hx hu
  obtain ⟨z, hz, rfl⟩ := hx
  obtain ⟨z', hz', rfl⟩ := hu
  rw [hz] at hz'; cases hz'
  exact eo_R hG hT z

theorem st_mkFunc (f : Fn) (xs ys : Array Operand) (ho : o.op = .makeFunc f xs ys) (hK : K (.func f (xs.toList.map (eo cx T)) (ys.toList.map (eo cx T))) h) : StepOk cx o T h K Kp := by
  intro g w0 own a w Q hG hT hH _
  obtain ⟨h1, h2⟩ := eo_list hG hT xs
  obtain ⟨h3, h4⟩ := eo_list hG hT ys
  exact wp_val (u := .func f (xs.map a.eval) (ys.map a.eval)) (by simp [execOp, ho, Instr.makeFunc, Result.andThen]) hK (.func f h1 h3 h2 h4) hH

theorem st_extract (x : Operand) (n : Nat) (ho : o.op = .extract x n) {l : List V} (hx : eo cx T x = .tup l) {y : V} (hy : l[n]? = some y) (hK : K y h) : StepOk cx o T h K Kp := by
  intro g w0 own a w Q hG hT hH _
  obtain ⟨cs, e, hn, hr⟩ := (hx ▸ eo_R hG hT x).tup_inv
  have hj : n < cs.size := hn ▸ (List.getElem?_eq_some_iff.1 hy).1
  exact wp_val (u := cs[n]) (by simp [execOp, ho, e, Instr.extract, Array.getElem?_eq_getElem hj, Result.andThen]) hK (hr _ _ _ hy (Array.getElem?_eq_getElem hj)) hH

theorem st_iface (t : TypeId) (x : Operand) (ho : o.op = .makeInterface t x) {d} (hu : cx.P.underlying t = some d) (hd : ∀ ms, d ≠ .interface ms) (hK : K (.iface t (eo cx T x)) h) : StepOk cx o T h K Kp := by
  intro g w0 own a w Q hG hT hH _
  refine wp_val (u := .iface t (a.eval x)) ?_ hK (.iface t (eo_R hG hT x)) hH
  simp only [execOp, ho, Instr.makeInterface, Sem.run_bind, run_underlying hu, Result.andThen]
  cases d <;> first | rfl | exact absurd rfl (hd _)

theorem st_panic (x : Operand) (ho : o.op = .panic x) {t y} (hx : eo cx T x = .iface t y) (hK : Kp (.iface t y) h) : StepOk cx o T h K Kp := by
  intro g w0 own a w Q hG hT hH hP
  obtain ⟨u, e, hr⟩ := (hx ▸ eo_R hG hT x).iface_inv
  have hrun : (execOp a.eval o).run cx.P w = .halt (.panic (.iface t u)) w := by simp [execOp, ho, e, Instr.panic, Result.andThen]
  unfold Oper.wp; rw [hrun]
  exact hP g _ _ _ w (.refl g) hK (.iface t hr) hH
end
end Go.Proofs.Ytlfnhbbgpifidaa.Sx
