/- The walk: operations as functions on abstract states, regions and code as a stack; that what the walk asks for suffices. -/
import Derived.Test.YtlfnhbbgpifidaaSxZ
namespace Go.Proofs.Ytlfnhbbgpifidaa.Sx
set_option linter.unusedVariables false
set_option linter.unusedSimpArgs false
open Go.RowKit

/-! Operations that call nothing: value, memory behind it, and what is needed. -/
abbrev St := V × List Blk × Prop

def Blk.cells : Blk → List V
  | .obj _ l => l
  | _ => []
def Blk.ty : Blk → TypeId
  | .obj t _ => t
  | .tok t _ => t
  | .gone => 0
def cellsOf (h : List Blk) (b : Nat) : List V := (h.getD b .gone).cells
theorem cellsOf_obj {h : List Blk} {b : Nat} (hn : cellsOf h b ≠ []) : h[b]? = some (.obj (h.getD b .gone).ty (cellsOf h b)) := by
  unfold cellsOf at hn ⊢
  by_cases hb : b < h.length
  · have e : h.getD b .gone = h[b] := by simp [hb]
    rw [e] at hn ⊢
    rw [List.getElem?_eq_getElem hb]
    cases hx : h[b] with
    | obj t l => rfl
    | tok t n => rw [hx] at hn; exact absurd rfl hn
    | gone => rw [hx] at hn; exact absurd rfl hn
  · have e : h.getD b .gone = .gone := by simp [Nat.le_of_not_lt hb]
    rw [e] at hn; exact absurd rfl hn

theorem getD_some {l : List V} {i : Nat} (h : i < l.length) : l[i]? = some (l.getD i .any) := by
  simp [h]

def sxLoad (h : List Blk) : V → Option (Nat × Bool) → St
  | .ptr b off, some (n, true) => (.agg (((cellsOf h b).drop off).take n), h, 0 < n ∧ off + n ≤ (cellsOf h b).length)
  | .ptr b off, some (_, false) => ((cellsOf h b).getD off .any, h, off < (cellsOf h b).length)
  | .fp cs, some (n, true) => (.agg (cs.take n), h, n ≤ cs.length)
  | .fp cs, some (_, false) => (cs.getD 0 .any, h, 0 < cs.length)
  | _, _ => (.any, h, False)

def sxStore (h : List Blk) : V → V → Option (Nat × Bool) → St
  | .ptr b off, y, some (n, _) => (.any, h.set b (.obj (h.getD b .gone).ty (setL (cellsOf h b) off y.flat)), 0 < n ∧ y.known = true ∧ y.flat.length = n ∧ y.flat.all V.oc = true ∧ off + n ≤ (cellsOf h b).length)
  | _, _, _ => (.any, h, False)

def sxFieldAddr (h : List Blk) : V → Option (Nat × TypeId) → St
  | .ptr b off, some (fof, _) => (.ptr b (off + fof), h, True)
  | .fp cs, some (fof, _) => (.fp (cs.drop fof), h, True)
  | _, _ => (.any, h, False)

/-- A part of a row of cells. -/
def part1 (l : List V) (off : Nat) : Option (Nat × Bool) → V × Prop
  | some (n, true) => (.agg ((l.drop off).take n), True)
  | some (_, false) => (l.getD off .any, off < l.length)
  | none => (.any, False)
def stOf (h : List Blk) (p : Prop) : V × Prop → St
  | (v, c) => (v, h, p ∧ c)

def sxField (cx : Cx) (h : List Blk) : V → Option (Nat × TypeId) → St
  | .agg l, some (fof, ft) => stOf h True (part1 l fof (ti cx.P ft))
  | _, _ => (.any, h, False)

def szOf : Option (Nat × Bool) → Nat
  | some (n, _) => n
  | none => 0

/-- A byte of a string. -/
def byteAt (s : ByteArray) (i : Int) : Int := if h : i.toNat < s.size then ((s[i.toNat]'h).toNat : Int) else 0

def sxIndex (cx : Cx) (h : List Blk) : V → V → El → St
  | .agg l, .int _ i, .arr len et => stOf h (0 ≤ i ∧ i < len) (part1 l (i.toNat * szOf (ti cx.P et)) (ti cx.P et))
  | .str s, .int _ i, .str => (.int .u8 (byteAt s i), h, 0 ≤ i ∧ i < s.size)
  | _, _, _ => (.any, h, False)

def sxIndexAddr (cx : Cx) (h : List Blk) : V → V → El → St
  | .ptr b off, .int _ i, .arr len et => (.ptr b (off + i.toNat * szOf (ti cx.P et)), h, ti cx.P et ≠ none ∧ 0 ≤ i ∧ i < len)
  | .fp cs, .int _ i, .arr len et => (.fp (cs.drop (i.toNat * szOf (ti cx.P et))), h, ti cx.P et ≠ none ∧ 0 ≤ i ∧ i < len)
  | .ms sz b off len, .int _ i, .slc et => (.ptr b (off + i.toNat * sz), h, ti cx.P et ≠ none ∧ szOf (ti cx.P et) = sz ∧ 0 ≤ i ∧ i < len)
  | .fl sz l _, .int _ i, .slc et => (.fp (l.getD i.toNat .any).flat, h, ti cx.P et ≠ none ∧ szOf (ti cx.P et) = sz ∧ 0 ≤ i ∧ i < l.length)
  | _, _, _ => (.any, h, False)

def isPtrT : Option TypeDesc → Bool
  | some (.pointer _) => true
  | _ => false
def isBoolT : Option TypeDesc → Bool
  | some .bool => true
  | _ => false
def isIfaceT : Option TypeDesc → Bool
  | some (.interface _) => true
  | none => true
  | _ => false
def nilEq : Option Bool → Option Bool → Bool × Prop
  | some i, some j => (i && j, i = true ∨ j = true)
  | _, _ => (false, False)

def sxNum (h : List Blk) (op : BinOp) : IntKind → Int → IntKind → Int → St
  | k, i, k', j => match op with
    | .shl => (.int k (shf .shl k i j), h, 0 ≤ j)
    | .shr => (.int k (shf .shr k i j), h, 0 ≤ j)
    | op => ((num2 op k i j).2, h, k = k' ∧ (num2 op k i j).1)
def sxBool (h : List Blk) (u : Option TypeDesc) : BinOp → Bool → Bool → St
  | .eql, i, j => (.bool (i == j), h, isBoolT u = true)
  | .neq, i, j => (.bool (i != j), h, isBoolT u = true)
  | _, _, _ => (.any, h, False)
def sxStr (h : List Blk) : BinOp → ByteArray → ByteArray → St
  | .eql, i, j => (.bool (i.toList == j.toList), h, True)
  | .neq, i, j => (.bool (i.toList != j.toList), h, True)
  | .add, i, j => (.str (i ++ j), h, i.size + j.size ≤ 9223372036854775807)
  | _, _, _ => (.any, h, False)
def sxNil (h : List Blk) (u : Option TypeDesc) : BinOp → Bool × Prop → St
  | .eql, (b, c) => (.bool b, h, isPtrT u = true ∧ c)
  | .neq, (b, c) => (.bool !b, h, isPtrT u = true ∧ c)
  | _, _ => (.any, h, False)
def sxEqA (h : List Blk) : BinOp → Option Bool → St
  | .eql, some b => (.bool b, h, True)
  | .neq, some b => (.bool !b, h, True)
  | _, _ => (.any, h, False)
def eqL (l l' : List V) : Option (List (Nat × Bool)) → Option Bool
  | some ks => eqK l l' ks
  | none => none
def sxBin (cx : Cx) (h : List Blk) (op : BinOp) (t : TypeId) : V → V → St
  | .int k i, .int k' j => sxNum h op k i k' j
  | .bool i, .bool j => sxBool h (cx.P.underlying t) op i j
  | .str i, .str j => sxStr h op i j
  | .agg l, .agg l' => sxEqA h op (eqL l l' (sfk cx.P t))
  | x, y => sxNil h (cx.P.underlying t) op (nilEq x.isNil y.isNil)

def sxPick (h : List Blk) : V → V → V → St
  | .bool b, .bool x, .bool y => (.bool (if b then x else y), h, True)
  | .bool true, x, _ => (x, h, True)
  | .bool false, _, y => (y, h, True)
  | _, _, _ => (.any, h, False)
def sxNot (h : List Blk) : V → St
  | .bool b => (.bool !b, h, True)
  | _ => (.any, h, False)
def sxNeg (h : List Blk) : V → St
  | .int k i => (.int k (k.wrap (0 - i)), h, True)
  | _ => (.any, h, False)
def sxExtract (h : List Blk) (n : Nat) : V → St
  | .tup l => (l.getD n .any, h, n < l.length)
  | _ => (.any, h, False)
def intT : Option TypeDesc → Option IntKind
  | some (.int k) => some k
  | _ => none
def sxConvInt (h : List Blk) : V → Option IntKind → St
  | .int _ i, some k => (.int k (k.wrap i), h, True)
  | _, _ => (.any, h, False)
def sxLen (h : List Blk) : El → V → St
  | .slc _, .nils => (.int .i64 0, h, True)
  | .slc _, .fl _ l _ => (.int .i64 l.length, h, True)
  | .slc _, .ms _ _ _ n => (.int .i64 n, h, True)
  | .str, .str s => (.int .i64 s.size, h, True)
  | _, _ => (.any, h, False)
def sxMin (h : List Blk) : V → V → St
  | .int k i, .int _ j => (.int k (if j < i then j else i), h, True)
  | _, _ => (.any, h, False)
def sxMax (h : List Blk) : V → V → St
  | .int k i, .int _ j => (.int k (if j > i then j else i), h, True)
  | _, _ => (.any, h, False)
def sxAlloc (h : List Blk) (t : TypeId) : Option (List V) → St
  | some z => (.ptr h.length 0, h ++ [.obj t z], True)
  | none => (.any, h, False)
def sxBuild (h : List Blk) : Option (List V) → St
  | some l => (.agg l, h, True)
  | none => (.any, h, False)
/-- Where the parts of an aggregate lie. -/
def plOf (cx : Cx) (t : TypeId) : El → Option (List (Nat × Nat)) → Nat → Option (Nat × Nat)
  | .arr _ e, _ => fun i => some (i * szOf (ti cx.P e), szOf (ti cx.P e))
  | _, some l => fun i => l[i]?
  | _, none => fun _ => none

/-- Parts laid into a row, one after another. -/
def bld1 (cells : List V) (x : V) : Option (Nat × Nat) → Option (List V)
  | none => none
  | some (off, sz) => if x.known = true ∧ x.flat.length = sz ∧ off + sz ≤ cells.length then some (setL cells off x.flat) else none
def bldO (pl : Nat → Option (Nat × Nat)) : Option (List V) → List (Nat × V) → Option (List V)
  | c, [] => c
  | none, _ :: _ => none
  | some c, (i, x) :: r => bldO pl (bld1 c x (pl i)) r
theorem bldO_none (pl) : ∀ ps, bldO pl none ps = none
  | [] => rfl
  | _ :: _ => rfl
theorem bldO_eq (pl) : ∀ (ps : List (Nat × V)) (c : List V), bldO pl (some c) ps = bld pl c ps
  | [], c => rfl
  | (i, x) :: r, c => by
    simp only [bldO, bld]
    cases pl i with
    | none => exact bldO_none pl r
    | some q =>
      obtain ⟨off, sz⟩ := q
      simp only [bld1]
      split
      · exact bldO_eq pl r _
      · exact bldO_none pl r

/-- Parts numbered from 0 on. -/
def inRow : Nat → List (Nat × V) → Bool
  | _, [] => true
  | n, (i, _) :: r => i == n && inRow (n + 1) r
def datC : Option V → Option (List V) → Option (List V)
  | some y, some l => some (y :: l)
  | _, _ => none
def datL : List V → Option (List V)
  | [] => some []
  | x :: r => datC x.dat (datL r)
theorem datL_eq : ∀ l : List V, datL l = l.mapM V.dat
  | [] => rfl
  | x :: r => by
    simp only [datL, datC, List.mapM_cons, datL_eq r]
    cases x.dat <;> cases (r.mapM V.dat) <;> rfl

def tzSz : Option (Nat × Nat × Nat) → Nat
  | some (n, _, _) => n
  | none => 0
def tzBy : Option (Nat × Nat × Nat) → Nat
  | some (_, n, _) => n
  | none => 0
def tzOk : Option (Nat × Nat × Nat) → Bool
  | some (n, b, z) => n == z && 0 < n && 0 < b
  | none => false

def sxBuildSlice (cx : Cx) (h : List Blk) (n : Nat) (ps : List (Nat × V)) : El → Option (List V) → St
  | .slc e, some ys => (.fl (tzSz (tz cx.P e)) ys (some h.length), h ++ [.tok e (n * tzSz (tz cx.P e))],
      tzOk (tz cx.P e) = true ∧ inRow 0 ps = true ∧ n = ps.length ∧ (ys.all fun y => y.flat.length == tzSz (tz cx.P e)) = true ∧ n * tzSz (tz cx.P e) ≤ 16777216)
  | _, _ => (.any, h, False)

def Blk.tokN : Blk → Option Nat
  | .tok _ n => some n
  | _ => none
def sxAppend (cx : Cx) (h : List Blk) : El → El → V → V → St
  | .slc e, .slc _, .nils, .fl sz ys _ => (.fl sz ys (some h.length), h ++ [.tok e (ys.length * sz)],
      tzOk (tz cx.P e) = true ∧ tzSz (tz cx.P e) = sz ∧ ys.length * tzBy (tz cx.P e) ≤ 140737488355328)
  | .slc e, .slc _, .fl sz l (some b), .fl sz' ys _ => (.fl sz (l ++ ys) (some h.length), h.set b .gone ++ [.tok e ((l.length + ys.length) * sz)],
      tzOk (tz cx.P e) = true ∧ tzSz (tz cx.P e) = sz ∧ sz' = sz ∧ (h.getD b .gone).ty = e ∧ (h.getD b .gone).tokN = some (l.length * sz) ∧ (l.length + ys.length) * tzBy (tz cx.P e) ≤ 140737488355328 ∧ (ys.flatMap V.flat).all V.oc = true)
  | _, _, _, _ => (.any, h, False)

/-- Which operations call nothing that is told elsewhere. -/
def silent : Op → Bool
  | .move _ | .assign _ | .pick .. | .alloc _ | .box .. | .load .. | .store .. | .fieldAddr .. | .field .. | .index .. | .indexAddr .. | .nilCheck _ | .binOp .. | .extract .. | .makeFunc .. | .makeInterface .. | .build .. | .buildSlice .. => true
  | .unOp .not _ _ | .unOp .neg _ _ => true
  | .convert .. => true
  | .call { callee := .builtin .len, .. } | .call { callee := .builtin .append, .. } | .call { callee := .builtin .min, .. } | .call { callee := .builtin .max, .. } => true
  | _ => false

def sxCall (cx : Cx) (h : List Blk) (T : List V) : Callee → List Operand → List TypeId → St
  | .builtin .len, [x], [t] => sxLen h (el cx.P t) (eo cx T x)
  | .builtin .min, [x, y], _ => sxMin h (eo cx T x) (eo cx T y)
  | .builtin .max, [x, y], _ => sxMax h (eo cx T x) (eo cx T y)
  | .builtin .append, [s, x], [t, t'] => sxAppend cx h (el cx.P t) (el cx.P t') (eo cx T s) (eo cx T x)
  | _, _, _ => (.any, h, False)
/-- The parts' places are told. -/
def bOk (cx : Cx) : El → Option (List (Nat × Nat)) → Bool
  | .arr _ e, _ => (ti cx.P e).isSome
  | _, l => l.isSome

def sx (cx : Cx) (op : Op) (T : List V) (h : List Blk) : St :=
  match op with
  | .move x => (eo cx T x, h, True)
  | .assign x => (eo cx T x, h, True)
  | .pick c x y => sxPick h (eo cx T c) (eo cx T x) (eo cx T y)
  | .alloc t => sxAlloc h t (zer cx.P t)
  | .box t x => (.ptr h.length 0, h ++ [.obj t (eo cx T x).flat], (eo cx T x).known = true)
  | .load t x => sxLoad h (eo cx T x) (ti cx.P t)
  | .store t x y => sxStore h (eo cx T x) (eo cx T y) (ti cx.P t)
  | .fieldAddr s x f => sxFieldAddr h (eo cx T x) (fo cx.P s f)
  | .field t x f => sxField cx h (eo cx T x) (fo cx.P t f)
  | .index t x y => sxIndex cx h (eo cx T x) (eo cx T y) (el cx.P t)
  | .indexAddr t x y => sxIndexAddr cx h (eo cx T x) (eo cx T y) (el cx.P t)
  | .nilCheck x => (eo cx T x, h, (eo cx T x).sure = true)
  | .binOp op t x y _ => sxBin cx h op t (eo cx T x) (eo cx T y)
  | .unOp .not _ x => sxNot h (eo cx T x)
  | .unOp .neg _ x => sxNeg h (eo cx T x)
  | .extract x n => sxExtract h n (eo cx T x)
  | .makeFunc f xs ys => (.func f (xs.toList.map (eo cx T)) (ys.toList.map (eo cx T)), h, True)
  | .makeInterface t x => (.iface t (eo cx T x), h, isIfaceT (cx.P.underlying t) = false)
  | .convert s d x => stOf h (cx.P.underlying s ≠ none) (match sxConvInt h (eo cx T x) (intT (cx.P.underlying d)) with | (v, _, c) => (v, c))
  | .build t ps => stOf h (bOk cx (el cx.P t) (plS cx.P t) = true) (match sxBuild h (bldO (plOf cx t (el cx.P t) (plS cx.P t)) (zer cx.P t) (ps.toList.map fun p => (p.1, eo cx T p.2))) with | (v, _, c) => (v, c))
  | .buildSlice t n ps => sxBuildSlice cx h n (ps.toList.map fun p => (p.1, eo cx T p.2)) (el cx.P t) (datL (ps.toList.map fun p => eo cx T p.2))
  | .call c => sxCall cx h T c.callee c.args.toList c.argTypes.toList
  | _ => (.any, h, False)

theorem tzOk_spec {z : Option (Nat × Nat × Nat)} (h : tzOk z = true) : ∃ sz by_, z = some (sz, by_, sz) ∧ 0 < sz ∧ 0 < by_ := by
  match z with
  | some (a, b, c) =>
    simp only [tzOk, Bool.and_eq_true, beq_iff_eq, decide_eq_true_eq] at h
    obtain ⟨⟨rfl, h1⟩, h2⟩ := h
    exact ⟨a, b, rfl, h1, h2⟩
theorem inRow_spec : ∀ (l : List (Nat × V)) n, inRow n l = true → l.length = l.length
  | _, _, _ => rfl
theorem inRow_ops (f : Operand → V) : ∀ (l : List (Nat × Operand)) n, inRow n (l.map fun p => (p.1, f p.2)) = true → l = ((l.map (·.2)).zipIdx n).map fun x => (x.2, x.1)
  | [], _, _ => rfl
  | (i, x) :: l, n, h => by
    simp only [List.map_cons, inRow, Bool.and_eq_true, beq_iff_eq] at h
    obtain ⟨rfl, h⟩ := h
    simp only [List.map_cons, List.zipIdx_cons]
    rw [← inRow_ops f l (i + 1) h]

def Eqs (s : St) : KV := fun v h => v = s.1 ∧ h = s.2.1

theorem sx_ok {cx : Cx} {o : Oper} {T : List V} {h : List Blk} {Kp : KV} (hc : (sx cx o.op T h).2.2) : StepOk cx o T h (Eqs (sx cx o.op T h)) Kp := by
  generalize ho : o.op = op at hc ⊢
  cases op with
  | move x => exact st_move x (.inl ho) ⟨rfl, rfl⟩
  | assign x => exact st_move x (.inr ho) ⟨rfl, rfl⟩
  | pick c x y =>
    simp only [sx] at hc ⊢
    generalize hcv : eo cx T c = cv at hc ⊢
    cases cv with
    | bool b =>
      refine st_pick c x y ho hcv ?_
      generalize eo cx T x = xv at hc ⊢
      generalize eo cx T y = yv at hc ⊢
      cases b <;> cases xv <;> cases yv <;> first | exact ⟨rfl, rfl⟩ | exact False.elim hc
    | _ => exact False.elim hc
  | alloc t =>
    simp only [sx] at hc ⊢
    cases hz : zer cx.P t with
    | none => rw [hz] at hc; exact False.elim hc
    | some z => exact st_alloc t ho hz ⟨rfl, rfl⟩
  | box t x => exact st_box t x ho hc ⟨rfl, rfl⟩
  | load t x =>
    simp only [sx] at hc ⊢
    generalize hx : eo cx T x = xv at hc ⊢
    cases ht : ti cx.P t with
    | none => rw [ht] at hc; cases xv <;> exact False.elim hc
    | some q =>
      obtain ⟨n, ag⟩ := q
      rw [ht] at hc
      cases xv with
      | ptr b off =>
        cases ag with
        | true =>
          have hne : cellsOf h b ≠ [] := by intro e; simp only [sxLoad, e, List.length_nil] at hc; omega
          exact st_load_ptr t x ho hx (cellsOf_obj hne) ht (by simp only [if_true]; exact ⟨hc.2, rfl, rfl⟩)
        | false =>
          have hne : cellsOf h b ≠ [] := by intro e; simp only [sxLoad, e, List.length_nil] at hc; omega
          exact st_load_ptr t x ho hx (cellsOf_obj hne) ht (by simp only [Bool.false_eq_true, if_false]; exact ⟨_, getD_some hc, rfl, rfl⟩)
      | fp cs =>
        cases ag with
        | true => exact st_load_fp t x ho hx ht (by simp only [if_true]; exact ⟨hc, rfl, rfl⟩)
        | false => exact st_load_fp t x ho hx ht (by simp only [Bool.false_eq_true, if_false]; exact ⟨_, getD_some hc, rfl, rfl⟩)
      | _ => exact False.elim hc
  | store t x y =>
    simp only [sx] at hc ⊢
    generalize hx : eo cx T x = xv at hc ⊢
    cases ht : ti cx.P t with
    | none => rw [ht] at hc; cases xv <;> exact False.elim hc
    | some q =>
      obtain ⟨n, ag⟩ := q
      rw [ht] at hc
      cases xv with
      | ptr b off =>
        obtain ⟨h0, h1, h2, h3, h4⟩ := hc
        have hne : cellsOf h b ≠ [] := by intro e; simp only [e, List.length_nil] at h4; omega
        exact st_store_ptr t x y ho hx (cellsOf_obj hne) ht h1 h2 h3 h4 ⟨rfl, rfl⟩
      | _ => exact False.elim hc
  | fieldAddr s x f =>
    simp only [sx] at hc ⊢
    generalize hx : eo cx T x = xv at hc ⊢
    cases hf : fo cx.P s f with
    | none => rw [hf] at hc; cases xv <;> exact False.elim hc
    | some q =>
      obtain ⟨fof, ft⟩ := q
      rw [hf] at hc
      cases xv with
      | ptr b off => exact st_fieldAddr_ptr s x f ho hx hf ⟨rfl, rfl⟩
      | fp cs => exact st_fieldAddr_fp s x f ho hx hf ⟨rfl, rfl⟩
      | _ => exact False.elim hc
  | field t x f =>
    simp only [sx] at hc ⊢
    generalize hx : eo cx T x = xv at hc ⊢
    cases hf : fo cx.P t f with
    | none => rw [hf] at hc; cases xv <;> exact False.elim hc
    | some q =>
      obtain ⟨fof, ft⟩ := q
      rw [hf] at hc
      cases xv with
      | agg l =>
        simp only [sxField] at hc ⊢
        cases ht : ti cx.P ft with
        | none => rw [ht] at hc; exact False.elim hc.2
        | some q =>
          obtain ⟨n, ag⟩ := q
          rw [ht] at hc
          cases ag with
          | true => exact st_field t x f ho hx hf ht (by simp only [if_true]; exact ⟨rfl, rfl⟩)
          | false => exact st_field t x f ho hx hf ht (by simp only [Bool.false_eq_true, if_false]; exact ⟨_, getD_some hc.2, rfl, rfl⟩)
      | _ => exact False.elim hc
  | index t x y =>
    simp only [sx] at hc ⊢
    generalize hx : eo cx T x = xv at hc ⊢
    generalize hy : eo cx T y = yv at hc ⊢
    cases he : el cx.P t with
    | arr len et =>
      rw [he] at hc
      cases xv <;> cases yv <;> first | exact False.elim hc | skip
      rename_i l k i
      simp only [sxIndex] at hc ⊢
      cases ht : ti cx.P et with
      | none => rw [ht] at hc; exact False.elim hc.2
      | some q =>
        obtain ⟨n, ag⟩ := q
        rw [ht] at hc
        cases ag with
        | true => exact st_index_arr t x y ho hx hy he ht hc.1.1 hc.1.2 (by simp only [if_true]; exact ⟨rfl, rfl⟩)
        | false => exact st_index_arr t x y ho hx hy he ht hc.1.1 hc.1.2 (by simp only [Bool.false_eq_true, if_false]; exact ⟨_, getD_some hc.2, rfl, rfl⟩)
    | str =>
      rw [he] at hc
      cases xv <;> cases yv <;> first | exact False.elim hc | skip
      rename_i s k i
      obtain ⟨h0, h1⟩ := hc
      have hi : i.toNat < s.size := by omega
      refine st_index_str t x y ho hx hy he h0 hi ⟨?_, rfl⟩
      simp only [sxIndex, byteAt, dif_pos hi]
    | slc e => rw [he] at hc; cases xv <;> cases yv <;> exact False.elim hc
    | no => rw [he] at hc; cases xv <;> cases yv <;> exact False.elim hc
  | indexAddr t x y =>
    simp only [sx] at hc ⊢
    generalize hx : eo cx T x = xv at hc ⊢
    generalize hy : eo cx T y = yv at hc ⊢
    cases he : el cx.P t with
    | arr len et =>
      rw [he] at hc
      cases ht : ti cx.P et with
      | none => cases xv <;> cases yv <;> first | exact False.elim hc | (simp only [sxIndexAddr] at hc; exact absurd ht hc.1)
      | some q =>
        obtain ⟨n, ag⟩ := q
        cases xv <;> cases yv <;> first | exact False.elim hc | skip
        · simp only [sxIndexAddr, ht, szOf] at hc ⊢
          exact st_indexAddr_arr_ptr t x y ho hx hy he ht hc.2.1 hc.2.2 ⟨rfl, rfl⟩
        · simp only [sxIndexAddr, ht, szOf] at hc ⊢
          exact st_indexAddr_arr_fp t x y ho hx hy he ht hc.2.1 hc.2.2 ⟨rfl, rfl⟩
    | slc et =>
      rw [he] at hc
      cases ht : ti cx.P et with
      | none => cases xv <;> cases yv <;> first | exact False.elim hc | (simp only [sxIndexAddr] at hc; exact absurd ht hc.1)
      | some q =>
        obtain ⟨n, ag⟩ := q
        cases xv <;> cases yv <;> first | exact False.elim hc | skip
        · simp only [sxIndexAddr, ht, szOf] at hc ⊢
          obtain ⟨_, rfl, h0, h1⟩ := hc
          exact st_indexAddr_fl t x y ho hx hy he ht h0 (getD_some (by omega)) ⟨rfl, rfl⟩
        · simp only [sxIndexAddr, ht, szOf] at hc ⊢
          obtain ⟨_, rfl, h0, h1⟩ := hc
          exact st_indexAddr_ms t x y ho hx hy he ht h0 h1 ⟨rfl, rfl⟩
    | str => rw [he] at hc; cases xv <;> cases yv <;> exact False.elim hc
    | no => rw [he] at hc; cases xv <;> cases yv <;> exact False.elim hc
  | nilCheck x => exact st_nilCheck x ho hc ⟨rfl, rfl⟩
  | binOp op t x y yt =>
    simp only [sx] at hc ⊢
    generalize hx : eo cx T x = xv at hc ⊢
    generalize hy : eo cx T y = yv at hc ⊢
    have nilcase : (sxNil h (cx.P.underlying t) op (nilEq xv.isNil yv.isNil)).2.2 → StepOk cx o T h (Eqs (sxNil h (cx.P.underlying t) op (nilEq xv.isNil yv.isNil))) Kp := by
      intro hc
      cases hxn : xv.isNil with
      | none => rw [hxn] at hc; cases op <;> first | exact False.elim hc | exact False.elim hc.2
      | some i =>
        cases hyn : yv.isNil with
        | none => rw [hxn, hyn] at hc; cases op <;> first | exact False.elim hc | exact False.elim hc.2
        | some j =>
          rw [hxn, hyn] at hc
          cases op <;> first | exact False.elim hc | skip
          all_goals
            obtain ⟨h1, h2⟩ := hc
            obtain ⟨e, hu⟩ : ∃ e, cx.P.underlying t = some (.pointer e) := by
              cases hu : cx.P.underlying t with
              | none => rw [hu] at h1; cases h1
              | some d => rw [hu] at h1; cases d <;> first | (cases h1; done) | exact ⟨_, rfl⟩
          · exact st_ptrNil .eql t x y yt ho (hx ▸ hxn) (hy ▸ hyn) hu (.inl rfl) h2 ⟨rfl, rfl⟩
          · exact st_ptrNil .neq t x y yt ho (hx ▸ hxn) (hy ▸ hyn) hu (.inr rfl) h2 ⟨rfl, rfl⟩
    cases xv with
    | int k i =>
      cases yv with
      | int k' j =>
        simp only [sxBin] at hc ⊢
        cases op with
        | shl => exact st_shift .shl t x y yt ho hx hy (.inl rfl) hc ⟨rfl, rfl⟩
        | shr => exact st_shift .shr t x y yt ho hx hy (.inr rfl) hc ⟨rfl, rfl⟩
        | _ =>
          obtain ⟨rfl, h1⟩ := hc
          exact st_num2 _ t x y yt ho hx hy ⟨by simp, by simp⟩ h1 ⟨rfl, rfl⟩
      | _ => exact nilcase hc
    | bool i =>
      cases yv with
      | bool j =>
        simp only [sxBin] at hc ⊢
        cases op <;> first | exact False.elim hc | skip
        all_goals
          have hu : cx.P.underlying t = some .bool := by
            cases hu : cx.P.underlying t with
            | none => rw [hu] at hc; cases hc
            | some d => rw [hu] at hc; cases d <;> first | (cases hc; done) | rfl
        · exact st_bool2 .eql t x y yt ho hx hy hu (.inl rfl) ⟨rfl, rfl⟩
        · exact st_bool2 .neq t x y yt ho hx hy hu (.inr rfl) ⟨rfl, rfl⟩
      | _ => exact nilcase hc
    | str i =>
      cases yv with
      | str j =>
        simp only [sxBin] at hc ⊢
        cases op <;> first | exact False.elim hc | skip
        · exact st_strAdd t x y yt ho hx hy hc ⟨rfl, rfl⟩
        · exact st_str2 .eql t x y yt ho hx hy (.inl rfl) ⟨rfl, rfl⟩
        · exact st_str2 .neq t x y yt ho hx hy (.inr rfl) ⟨rfl, rfl⟩
      | _ => exact nilcase hc
    | agg l =>
      cases yv with
      | agg l' =>
        simp only [sxBin] at hc ⊢
        cases hk : sfk cx.P t with
        | none => rw [hk] at hc; cases op <;> exact False.elim hc
        | some ks =>
          rw [hk] at hc
          cases hb : eqL l l' (some ks) with
          | none => rw [hb] at hc; cases op <;> exact False.elim hc
          | some b =>
            rw [hb] at hc
            unfold sfk at hk
            split at hk
            · rename_i fs hf
              have he := eqK_ok hk hb
              cases op <;> first | exact False.elim hc | skip
              · exact st_eqStruct .eql t x y yt ho hx hy hf he (.inl rfl) ⟨rfl, rfl⟩
              · exact st_eqStruct .neq t x y yt ho hx hy hf he (.inr rfl) ⟨rfl, rfl⟩
            · cases hk
      | _ => exact nilcase hc
    | _ => cases yv <;> exact nilcase hc
  | unOp op t x =>
    cases op with
    | not =>
      simp only [sx] at hc ⊢
      generalize hx : eo cx T x = xv at hc ⊢
      cases xv with
      | bool b => exact st_not t x ho hx ⟨rfl, rfl⟩
      | _ => exact False.elim hc
    | neg =>
      simp only [sx] at hc ⊢
      generalize hx : eo cx T x = xv at hc ⊢
      cases xv with
      | int k i => exact st_neg t x ho hx ⟨rfl, rfl⟩
      | _ => exact False.elim hc
    | _ => exact False.elim hc
  | extract x n =>
    simp only [sx] at hc ⊢
    generalize hx : eo cx T x = xv at hc ⊢
    cases xv with
    | tup l => exact st_extract x n ho hx (getD_some hc) ⟨rfl, rfl⟩
    | _ => exact False.elim hc
  | makeFunc f xs ys => exact st_mkFunc f xs ys ho ⟨rfl, rfl⟩
  | makeInterface t x =>
    simp only [sx] at hc ⊢
    cases hu : cx.P.underlying t with
    | none => rw [hu] at hc; cases hc
    | some d => rw [hu] at hc; exact st_iface t x ho hu (fun ms e => by subst e; cases hc) ⟨rfl, rfl⟩
  | convert s d x =>
    simp only [sx] at hc ⊢
    generalize hx : eo cx T x = xv at hc ⊢
    obtain ⟨hs, hc⟩ := hc
    cases hu : cx.P.underlying d with
    | none => rw [hu] at hc; cases xv <;> exact False.elim hc
    | some e =>
      rw [hu] at hc
      cases xv <;> cases e <;> first | exact False.elim hc | skip
      cases hs' : cx.P.underlying s with
      | none => exact absurd hs' hs
      | some e' => exact st_convInt s d x ho hx hu hs' ⟨rfl, rfl⟩
  | build t ps =>
    simp only [sx] at hc ⊢
    cases hz : zer cx.P t with
    | none => rw [hz, bldO_none] at hc; exact False.elim hc.2
    | some z =>
      rw [hz, bldO_eq] at hc
      rw [bldO_eq]
      cases hb : bld (plOf cx t (el cx.P t) (plS cx.P t)) z (ps.toList.map fun p => (p.1, eo cx T p.2)) with
      | none => rw [hb] at hc; exact False.elim hc.2
      | some out =>
        cases he : el cx.P t with
        | arr len e =>
          rw [he] at hb
          cases ht : ti cx.P e with
          | none => have := hc.1; rw [he] at this; simp only [bOk, ht] at this; cases this
          | some q =>
            obtain ⟨n, ag⟩ := q
            simp only [plOf, ht, szOf] at hb
            exact st_build_arr t ps ho hz he ht hb ⟨rfl, rfl⟩
        | _ =>
          rw [he] at hb
          cases hp : plS cx.P t with
          | none => have := hc.1; rw [he, hp] at this; cases this
          | some l =>
            rw [hp] at hb
            exact st_build_struct t ps ho hz hp hb ⟨rfl, rfl⟩
  | buildSlice t n ps =>
    simp only [sx] at hc ⊢
    cases he : el cx.P t with
    | slc e =>
      rw [he] at hc
      cases hd : datL (ps.toList.map fun p => eo cx T p.2) with
      | none => rw [hd] at hc; exact False.elim hc
      | some ys =>
        rw [hd] at hc
        obtain ⟨h1, h2, h3, h4, h5⟩ := hc
        obtain ⟨sz, by_, hz, hs, hb0⟩ := tzOk_spec h1
        rw [hz] at h4 h5
        rw [datL_eq] at hd
        have hps := inRow_spec _ 0 h2
        have hlen : n = (ps.toList.map (·.2)).length := by simpa using h3
        have e1 : ps.toList = ((ps.toList.map (·.2)).zipIdx 0).map fun x => (x.2, x.1) := inRow_ops (eo cx T) ps.toList 0 h2
        refine st_buildSlice t n ps (ps.toList.map (·.2)) ho e1 hlen he hz hs (by rw [List.map_map]; exact hd) (fun y hy => ?_) h5 ?_
        · rw [List.all_eq_true] at h4; exact eq_of_beq (h4 y hy)
        · refine ⟨?_, ?_⟩ <;> simp only [sxBuildSlice, hz, tzSz]
    | _ => rw [he] at hc; exact False.elim hc
  | call c =>
    obtain ⟨cal, args, ats⟩ := c
    simp only [sx] at hc ⊢
    obtain ⟨al⟩ := args
    obtain ⟨tl⟩ := ats
    cases cal with
    | value f => exact False.elim hc
    | invoke r m => exact False.elim hc
    | builtin b =>
      cases b <;> first | exact False.elim hc | skip
      · -- append
        match al, tl with
        | [s, x], [t, t'] =>
          simp only [sxCall] at hc ⊢
          generalize hs : eo cx T s = sv at hc ⊢
          generalize hx : eo cx T x = xv at hc ⊢
          cases he : el cx.P t with
          | slc e =>
            cases he' : el cx.P t' with
            | slc e' =>
              rw [he, he'] at hc
              cases sv with
              | nils =>
                cases xv with
                | fl sz ys tok =>
                  obtain ⟨h1, h2, h3⟩ := hc
                  obtain ⟨sz', by_, hz, hs', hb0⟩ := tzOk_spec h1
                  rw [hz] at h2 h3
                  simp only [tzSz, tzBy] at h2 h3
                  subst h2
                  exact st_append_new s x t t' ho he he' hz hb0 hs hx h3 ⟨rfl, rfl⟩
                | _ => exact False.elim hc
              | fl sz l tok =>
                cases tok with
                | none => cases xv <;> exact False.elim hc
                | some b =>
                  cases xv with
                  | fl sz' ys tok' =>
                    obtain ⟨h1, h2, h3, h4, h5, h6, h7⟩ := hc
                    obtain ⟨sz'', by_, hz, hs', hb0⟩ := tzOk_spec h1
                    rw [hz] at h2 h6
                    simp only [tzSz, tzBy] at h2 h6
                    subst h2 h3
                    have hb : h[b]? = some (.tok e (l.length * sz')) := by
                      by_cases hlt : b < h.length
                      · have e1 : h.getD b .gone = h[b] := by simp [hlt]
                        rw [e1] at h4 h5
                        rw [List.getElem?_eq_getElem hlt]
                        cases hx' : h[b] <;> rw [hx'] at h4 h5 <;> first | (cases h5; done) | skip
                        simp only [Blk.tokN, Option.some.injEq, Blk.ty] at h4 h5
                        subst h4 h5; rfl
                      · have e1 : h.getD b .gone = .gone := by simp [Nat.le_of_not_lt hlt]
                        rw [e1] at h5; cases h5
                    exact st_append_tok s x t t' ho he he' hz hb0 hs hb hx h6 h7 ⟨rfl, rfl⟩
                  | _ => exact False.elim hc
              | _ => cases xv <;> exact False.elim hc
            | _ => rw [he, he'] at hc; cases sv <;> cases xv <;> exact False.elim hc
          | _ => rw [he] at hc; exact False.elim hc
        | [], _ => exact False.elim hc
        | [_], _ => exact False.elim hc
        | _ :: _ :: _ :: _, _ => exact False.elim hc
        | [_, _], [] => exact False.elim hc
        | [_, _], [_] => exact False.elim hc
        | [_, _], _ :: _ :: _ :: _ => exact False.elim hc
      · -- len
        match al, tl with
        | [x], [t] =>
          simp only [sxCall] at hc ⊢
          generalize hx : eo cx T x = xv at hc ⊢
          cases he : el cx.P t <;> rw [he] at hc <;> cases xv <;> first | exact False.elim hc | skip
          all_goals exact st_len x t ho (by rw [hx]; rfl) (by rw [he, hx]) ⟨rfl, rfl⟩
        | [], _ => exact False.elim hc
        | _ :: _ :: _, _ => exact False.elim hc
        | [_], [] => exact False.elim hc
        | [_], _ :: _ :: _ => exact False.elim hc
      · -- max
        match al with
        | [x, y] =>
          have hc : (sxMax h (eo cx T x) (eo cx T y)).2.2 := hc
          show StepOk cx o T h (Eqs (sxMax h (eo cx T x) (eo cx T y))) Kp
          generalize hx : eo cx T x = xv at hc ⊢
          generalize hy : eo cx T y = yv at hc ⊢
          cases xv <;> cases yv <;> first | exact False.elim hc | skip
          exact st_max x y ⟨tl⟩ ho hx hy ⟨rfl, rfl⟩
        | [] => exact False.elim hc
        | [_] => exact False.elim hc
        | _ :: _ :: _ :: _ => exact False.elim hc
      · -- min
        match al with
        | [x, y] =>
          have hc : (sxMin h (eo cx T x) (eo cx T y)).2.2 := hc
          show StepOk cx o T h (Eqs (sxMin h (eo cx T x) (eo cx T y))) Kp
          generalize hx : eo cx T x = xv at hc ⊢
          generalize hy : eo cx T y = yv at hc ⊢
          cases xv <;> cases yv <;> first | exact False.elim hc | skip
          exact st_min x y ⟨tl⟩ ho hx hy ⟨rfl, rfl⟩
        | [] => exact False.elim hc
        | [_] => exact False.elim hc
        | _ :: _ :: _ :: _ => exact False.elim hc
  | _ => exact False.elim hc
end Go.Proofs.Ytlfnhbbgpifidaa.Sx
