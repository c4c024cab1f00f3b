/- Closed walks, by computation. -/
import Derived.Test.YtlfnhbbgpifidaaSxN
namespace Go.Proofs.Ytlfnhbbgpifidaa.Sx
set_option linter.unusedVariables false
set_option linter.unusedSimpArgs false
open Go.RowKit

/-! Lists, by recursors alone: these are what the kernel computes with. -/
noncomputable def nthR (l : List V) : Nat → V :=
  List.rec (motive := fun _ => Nat → V) (fun _ => .any) (fun x _ ih n => Nat.rec (motive := fun _ => V) x (fun m _ => ih m) n) l
theorem nthR_eq : ∀ (l : List V) (n : Nat), nthR l n = l.getD n .any
  | [], n => rfl
  | x :: l, 0 => rfl
  | x :: l, n + 1 => by
    show nthR l n = _
    rw [nthR_eq l n]; simp
noncomputable def setR (v : V) (l : List V) : Nat → List V :=
  List.rec (motive := fun _ => Nat → List V) (fun _ => []) (fun x r ih n => Nat.rec (motive := fun _ => List V) (v :: r) (fun m _ => x :: ih m) n) l
theorem setR_eq (v : V) : ∀ (l : List V) (n : Nat), setR v l n = l.set n v
  | [], n => rfl
  | x :: l, 0 => rfl
  | x :: l, n + 1 => by
    show x :: setR v l n = _
    rw [setR_eq v l n]; simp
noncomputable def nthB (l : List Blk) : Nat → Blk :=
  List.rec (motive := fun _ => Nat → Blk) (fun _ => .gone) (fun x _ ih n => Nat.rec (motive := fun _ => Blk) x (fun m _ => ih m) n) l
theorem nthB_eq : ∀ (l : List Blk) (n : Nat), nthB l n = l.getD n .gone
  | [], n => rfl
  | x :: l, 0 => rfl
  | x :: l, n + 1 => by
    show nthB l n = _
    rw [nthB_eq l n]; simp

noncomputable def ec (cx : Cx) (T : List V) : Operand → V
  | .tmp t => nthR T t
  | .const v => cst v
  | .global i => .fp (cx.G i)
  | .func f => .func (.func f) [] []
theorem ec_eq (cx : Cx) (T : List V) : ∀ x, ec cx T x = eo cx T x
  | .tmp t => nthR_eq T t
  | .const _ => rfl
  | .global _ => rfl
  | .func _ => rfl

abbrev Sc := Option (V × List Blk)
def okB (b : Bool) (v : V) (h : List Blk) : Sc := match b with
  | true => some (v, h)
  | false => none
theorem okB_some {b : Bool} {v v' : V} {h h' : List Blk} (e : okB b v h = some (v', h')) : b = true ∧ v' = v ∧ h' = h := by
  cases b <;> simp [okB] at e
  exact ⟨rfl, e.1.symm, e.2.symm⟩

noncomputable def cellsR (h : List Blk) (b : Nat) : List V := (nthB h b).cells
theorem cellsR_eq (h : List Blk) (b : Nat) : cellsR h b = cellsOf h b := by unfold cellsR cellsOf; rw [nthB_eq]

/-- What an operation's value and memory are was told by 'sx'; here is what it asks for. -/
def ltI (a b : Int) : Bool := decide (a < b)
def leI (a b : Int) : Bool := decide (a ≤ b)

noncomputable def sc (cx : Cx) (op : Op) (T : List V) (h : List Blk) : Sc :=
  match op with
  | .move x => some (ec cx T x, h)
  | .assign x => some (ec cx T x, h)
  | .pick c x y => match ec cx T c with
    | .bool true => some (ec cx T x, h)
    | .bool false => some (ec cx T y, h)
    | _ => none
  | .alloc t => match zer cx.P t with
    | some z => some (.ptr h.length 0, h ++ [.obj t z])
    | none => none
  | .box t x => okB (ec cx T x).known (.ptr h.length 0) (h ++ [.obj t (ec cx T x).flat])
  | .load t x => match ec cx T x, ti cx.P t with
    | .ptr b off, some (n, true) => okB (Nat.blt 0 n && Nat.ble (off + n) (cellsR h b).length) (.agg (((cellsR h b).drop off).take n)) h
    | .ptr b off, some (_, false) => okB (Nat.blt off (cellsR h b).length) (nthR (cellsR h b) off) h
    | .fp cs, some (n, true) => okB (Nat.ble n cs.length) (.agg (cs.take n)) h
    | .fp cs, some (_, false) => okB (Nat.blt 0 cs.length) (nthR cs 0) h
    | _, _ => none
  | .store t x y => match ec cx T x, ti cx.P t with
    | .ptr b off, some (n, _) =>
      okB (Nat.blt 0 n && (ec cx T y).known && Nat.beq (ec cx T y).flat.length n && (ec cx T y).flat.all V.oc && Nat.ble (off + n) (cellsR h b).length) .any
        (h.set b (.obj (nthB h b).ty (setL (cellsR h b) off (ec cx T y).flat)))
    | _, _ => none
  | .fieldAddr s x f => match ec cx T x, fo cx.P s f with
    | .ptr b off, some (fof, _) => some (.ptr b (off + fof), h)
    | .fp cs, some (fof, _) => some (.fp (cs.drop fof), h)
    | _, _ => none
  | .field t x f => match ec cx T x, fo cx.P t f with
    | .agg l, some (fof, ft) => match ti cx.P ft with
      | some (n, true) => some (.agg ((l.drop fof).take n), h)
      | some (_, false) => okB (Nat.blt fof l.length) (nthR l fof) h
      | none => none
    | _, _ => none
  | .index t x y => match ec cx T x, ec cx T y, el cx.P t with
    | .agg l, .int _ (.ofNat i), .arr len et => match ti cx.P et with
      | some (n, true) => okB (Nat.blt i len) (.agg ((l.drop (i * n)).take n)) h
      | some (n, false) => okB (Nat.blt i len && Nat.blt (i * n) l.length) (nthR l (i * n)) h
      | none => none
    | .str s, .int _ (.ofNat i), .str => okB (Nat.blt i s.size) (.int .u8 (byteAt s i)) h
    | _, _, _ => none
  | .indexAddr t x y => match ec cx T x, ec cx T y, el cx.P t with
    | .ptr b off, .int _ (.ofNat i), .arr len et => match ti cx.P et with
      | some (n, _) => okB (Nat.blt i len) (.ptr b (off + i * n)) h
      | none => none
    | .fp cs, .int _ (.ofNat i), .arr len et => match ti cx.P et with
      | some (n, _) => okB (Nat.blt i len) (.fp (cs.drop (i * n))) h
      | none => none
    | .ms sz b off len, .int _ (.ofNat i), .slc et => match ti cx.P et with
      | some (n, _) => okB (Nat.beq n sz && Nat.blt i len) (.ptr b (off + i * sz)) h
      | none => none
    | .fl sz l _, .int _ (.ofNat i), .slc et => match ti cx.P et with
      | some (n, _) => okB (Nat.beq n sz && Nat.blt i l.length) (.fp (nthR l i).flat) h
      | none => none
    | _, _, _ => none
  | .nilCheck x => okB (ec cx T x).sure (ec cx T x) h
  | .binOp op t x y _ => match ec cx T x, ec cx T y with
    | .int k i, .int k' j => match op with
      | .shl => okB (leI 0 j) (.int k (shf .shl k i j)) h
      | .shr => okB (leI 0 j) (.int k (shf .shr k i j)) h
      | .quo => okB (decide (k = k') && !decide (j = 0)) (.int k (k.wrap (i.tdiv j))) h
      | .rem => okB (decide (k = k') && !decide (j = 0)) (.int k (i.tmod j)) h
      | op => okB (decide (k = k')) (num2 op k i j).2 h
    | .bool i, .bool j => match op with
      | .eql => okB (isBoolT (cx.P.underlying t)) (.bool (i == j)) h
      | .neq => okB (isBoolT (cx.P.underlying t)) (.bool (i != j)) h
      | _ => none
    | .str i, .str j => match op with
      | .eql => some (.bool (i.toList == j.toList), h)
      | .neq => some (.bool (i.toList != j.toList), h)
      | .add => okB (Nat.ble (i.size + j.size) 9223372036854775807) (.str (i ++ j)) h
      | _ => none
    | .agg l, .agg l' => match sfk cx.P t with
      | some ks => match eqK l l' ks, op with
        | some b, .eql => some (.bool b, h)
        | some b, .neq => some (.bool !b, h)
        | _, _ => none
      | none => none
    | x, y => match x.isNil, y.isNil, op with
      | some i, some j, .eql => okB (isPtrT (cx.P.underlying t) && (i || j)) (.bool (i && j)) h
      | some i, some j, .neq => okB (isPtrT (cx.P.underlying t) && (i || j)) (.bool !(i && j)) h
      | _, _, _ => none
  | .unOp .not _ x => match ec cx T x with
    | .bool b => some (.bool !b, h)
    | _ => none
  | .unOp .neg _ x => match ec cx T x with
    | .int k i => some (.int k (k.wrap (0 - i)), h)
    | _ => none
  | .extract x n => match ec cx T x with
    | .tup l => okB (Nat.blt n l.length) (nthR l n) h
    | _ => none
  | .makeFunc f xs ys => some (.func f (xs.toList.map (ec cx T)) (ys.toList.map (ec cx T)), h)
  | .makeInterface t x => okB (!isIfaceT (cx.P.underlying t)) (.iface t (ec cx T x)) h
  | .convert s d x => match cx.P.underlying s, ec cx T x, intT (cx.P.underlying d) with
    | some _, .int _ i, some k => some (.int k (k.wrap i), h)
    | _, _, _ => none
  | .build t ps => match bldO (plOf cx t (el cx.P t) (plS cx.P t)) (zer cx.P t) (ps.toList.map fun p => (p.1, ec cx T p.2)) with
    | some l => okB (bOk cx (el cx.P t) (plS cx.P t)) (.agg l) h
    | none => none
  | .buildSlice t n ps => match el cx.P t, datL (ps.toList.map fun p => ec cx T p.2) with
    | .slc e, some ys => okB (tzOk (tz cx.P e) && inRow 0 (ps.toList.map fun p => (p.1, ec cx T p.2)) && Nat.beq n ps.toList.length && (ys.all fun y => y.flat.length == tzSz (tz cx.P e)) && Nat.ble (n * tzSz (tz cx.P e)) 16777216)
        (.fl (tzSz (tz cx.P e)) ys (some h.length)) (h ++ [.tok e (n * tzSz (tz cx.P e))])
    | _, _ => none
  | .call { callee := .builtin .len, args := ⟨[x]⟩, argTypes := ⟨[t]⟩ } => match el cx.P t, ec cx T x with
    | .slc _, .nils => some (.int .i64 (.ofNat 0), h)
    | .slc _, .fl _ l _ => some (.int .i64 (.ofNat l.length), h)
    | .slc _, .ms _ _ _ n => some (.int .i64 (.ofNat n), h)
    | .str, .str s => some (.int .i64 (.ofNat s.size), h)
    | _, _ => none
  | .call { callee := .builtin .min, args := ⟨[x, y]⟩, .. } => match ec cx T x, ec cx T y with
    | .int k i, .int _ j => match ltI j i with
      | true => some (.int k j, h)
      | false => some (.int k i, h)
    | _, _ => none
  | .call { callee := .builtin .max, args := ⟨[x, y]⟩, .. } => match ec cx T x, ec cx T y with
    | .int k i, .int _ j => match ltI i j with
      | true => some (.int k j, h)
      | false => some (.int k i, h)
    | _, _ => none
  | .call { callee := .builtin .append, args := ⟨[s, x]⟩, argTypes := ⟨[t, t']⟩ } => match el cx.P t, el cx.P t', ec cx T s, ec cx T x with
    | .slc e, .slc _, .nils, .fl sz ys _ => okB (tzOk (tz cx.P e) && Nat.beq (tzSz (tz cx.P e)) sz && Nat.ble (ys.length * tzBy (tz cx.P e)) 140737488355328) (.fl sz ys (some h.length)) (h ++ [.tok e (ys.length * sz)])
    | .slc e, .slc _, .fl sz l (some b), .fl sz' ys _ =>
      okB (tzOk (tz cx.P e) && Nat.beq (tzSz (tz cx.P e)) sz && Nat.beq sz' sz && Nat.beq (nthB h b).ty e && decide ((nthB h b).tokN = some (l.length * sz)) && Nat.ble ((l.length + ys.length) * tzBy (tz cx.P e)) 140737488355328 && (ys.flatMap V.flat).all V.oc)
        (.fl sz (l ++ ys) (some h.length)) (h.set b .gone ++ [.tok e ((l.length + ys.length) * sz)])
    | _, _, _, _ => none
  | _ => none
end Go.Proofs.Ytlfnhbbgpifidaa.Sx
