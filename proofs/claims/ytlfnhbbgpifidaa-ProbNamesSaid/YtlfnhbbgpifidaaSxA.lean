/- Abstract values and heaps, and what they say of the model's values and worlds. Definitions and monotonicity only; no program. -/
import Derived.Orders
import Derived.Below
namespace Go.Proofs.Ytlfnhbbgpifidaa.Sx
set_option linter.unusedVariables false
set_option linter.unusedSimpArgs false

/-- An abstract value: 'any' says nothing; 'ptr b off' points into the block number b of an abstract heap; 'fp cs' points at cells that never change; 'fl sz l tok' is a slice whose elements (of sz cells each) never change; 'ms' is a slice over a block of the abstract heap. -/
inductive V where
  | any
  | bool (b : Bool)
  | int (k : IntKind) (n : Int)
  | str (s : ByteArray)
  | nilp
  | ptr (b off : Nat)
  | fp (cs : List V)
  | nils
  | fl (sz : Nat) (l : List V) (tok : Option Nat)
  | ms (sz b off len : Nat)
  | func (f : Fn) (first cap : List V)
  | nilf
  | iface (t : TypeId) (x : V)
  | nili
  | agg (l : List V)
  | tup (l : List V)
  deriving Inhabited

def V.flat : V → List V
  | .agg l => l
  | x => [x]

/-- One cell, surely. -/
def V.oc : V → Bool
  | .any | .agg _ | .tup _ => false
  | _ => true

/-- A block of an abstract heap: a row of cells that are all owned; an array whose first n cells are given away for good while the others are owned; or nothing. -/
inductive Blk where
  | obj (t : TypeId) (cells : List V)
  | tok (t : TypeId) (n : Nat)
  | gone
  deriving Inhabited

abbrev Frz := Addr → Option Value

/-- Data that rests on cells that never change. -/
inductive RD (S : Frz) : V → Value → Prop
  | any (v) : RD S .any v
  | bool (b) : RD S (.bool b) (.bool b)
  | int (k n) : RD S (.int k n) (.int k n)
  | str (s) : RD S (.str s) (.string s)
  | nils (a) : RD S .nils (.slice a 0 0)
  | fl0 (sz a cap) : RD S (.fl sz [] none) (.slice a 0 cap)
  | fl (sz : Nat) (l : List V) (ad : Addr) (n cap : Nat) (hn : n = l.length) (hc : n ≤ cap) (hsp : ad.spot = none)
      (f : Nat → Nat → Value) (hl : ∀ (i : Nat) x, l[i]? = some x → x.flat.length = sz)
      (hS : ∀ (i : Nat) x (j : Nat) y, l[i]? = some x → x.flat[j]? = some y → S (ad.add (i * sz + j)) = some (f i j))
      (hr : ∀ (i : Nat) x (j : Nat) y, l[i]? = some x → x.flat[j]? = some y → RD S y (f i j)) :
      RD S (.fl sz l none) (.slice (some ad) n cap)
  | agg (l : List V) (cs : Array Value) (hn : l.length = cs.size) (h : ∀ (i : Nat) x u, l[i]? = some x → cs[i]? = some u → RD S x u) : RD S (.agg l) (.agg cs)

/-- The ghosts: which cells never change, which block of the world an abstract block is, and how many cells it has. -/
structure Gh where
  S : Frz
  β : Nat → Option Nat
  dim : Nat → Nat

structure Gh.le (g g' : Gh) : Prop where
  S : ∀ ad u, g.S ad = some u → g'.S ad = some u
  β : ∀ b c, g.β b = some c → g'.β b = some c ∧ g'.dim b = g.dim b

theorem Gh.le.refl (g : Gh) : g.le g := ⟨fun _ _ h => h, fun _ _ h => ⟨h, rfl⟩⟩
theorem Gh.le.trans {g g' g'' : Gh} (h : g.le g') (k : g'.le g'') : g.le g'' :=
  ⟨fun ad u hu => k.S _ _ (h.S _ _ hu), fun b c hb => ⟨(k.β _ _ (h.β _ _ hb).1).1, ((k.β _ _ (h.β _ _ hb).1).2).trans (h.β _ _ hb).2⟩⟩

/-- As 'le', of the abstract blocks below n alone. -/
structure Gh.leN (n : Nat) (g g' : Gh) : Prop where
  S : ∀ ad u, g.S ad = some u → g'.S ad = some u
  β : ∀ b c, b < n → g.β b = some c → g'.β b = some c ∧ g'.dim b = g.dim b
theorem Gh.le.toN {g g' : Gh} (h : g.le g') (n : Nat) : Gh.leN n g g' := ⟨h.S, fun b c _ => h.β b c⟩
theorem Gh.leN.refl (n : Nat) (g : Gh) : Gh.leN n g g := (Gh.le.refl g).toN n
theorem Gh.leN.trans {n : Nat} {g g' g'' : Gh} (h : Gh.leN n g g') (k : Gh.leN n g' g'') : Gh.leN n g g'' :=
  ⟨fun ad u hu => k.S _ _ (h.S _ _ hu), fun b c hn hb => ⟨(k.β _ _ hn (h.β _ _ hn hb).1).1, ((k.β _ _ hn (h.β _ _ hn hb).1).2).trans (h.β _ _ hn hb).2⟩⟩

theorem RD.mono {S S' : Frz} (hS : ∀ ad u, S ad = some u → S' ad = some u) {x : V} {v : Value} (h : RD S x v) : RD S' x v := by
  induction h with
  | any v => exact .any v
  | bool b => exact .bool b
  | int k n => exact .int k n
  | str s => exact .str s
  | nils a => exact .nils a
  | fl0 sz a cap => exact .fl0 sz a cap
  | fl sz l ad n cap hn hc hsp f hl hs _ ih => exact .fl sz l ad n cap hn hc hsp f hl (fun i x j y hx hy => hS _ _ (hs i x j y hx hy)) ih
  | agg l cs hn h ih => exact .agg l cs hn fun i x u hx hu => ih i x u hx hu

inductive R (g : Gh) : V → Value → Prop
  | data {x v} (h : RD g.S x v) : R g x v
  | nilp : R g .nilp (.pointer none)
  | ptr {b c} (off : Nat) (h : g.β b = some c) : R g (.ptr b off) (.pointer (some ⟨c, off, none⟩))
  | fp {cs : List V} {ad : Addr} (hsp : ad.spot = none) (h : ∀ (j : Nat) y, cs[j]? = some y → ∃ u, g.S (ad.add j) = some u ∧ RD g.S y u) : R g (.fp cs) (.pointer (some ad))
  | flt {sz : Nat} {l : List V} {b c cap : Nat} (h : RD g.S (.fl sz l none) (.slice (some ⟨c, 0, none⟩) l.length cap)) (hc : l.length ≤ cap) (hb : g.β b = some c) (hd : cap * sz ≤ g.dim b) :
      R g (.fl sz l (some b)) (.slice (some ⟨c, 0, none⟩) l.length cap)
  | flt0 (sz b : Nat) (a) : R g (.fl sz [] (some b)) (.slice a 0 0)
  | ms {sz b c off len cap : Nat} (hb : g.β b = some c) (hd : off + cap * sz ≤ g.dim b) (hc : len ≤ cap) : R g (.ms sz b off len) (.slice (some ⟨c, off, none⟩) len cap)
  | func (f : Fn) {a b : List V} {a' b' : Array Value} (ha : a.length = a'.size) (hb : b.length = b'.size)
      (h : ∀ (i : Nat) x u, a[i]? = some x → a'[i]? = some u → R g x u) (h' : ∀ (i : Nat) x u, b[i]? = some x → b'[i]? = some u → R g x u) : R g (.func f a b) (.func f a' b')
  | nilf : R g .nilf .nilFunc
  | iface (t : TypeId) {x v} (h : R g x v) : R g (.iface t x) (.iface t v)
  | nili : R g .nili .nilIface
  | agg {l : List V} {cs : Array Value} (hn : l.length = cs.size) (h : ∀ (i : Nat) x u, l[i]? = some x → cs[i]? = some u → R g x u) : R g (.agg l) (.agg cs)
  | tup {l : List V} {cs : Array Value} (hn : l.length = cs.size) (h : ∀ (i : Nat) x u, l[i]? = some x → cs[i]? = some u → R g x u) : R g (.tup l) (.tuple cs)

theorem R.any (g : Gh) (v : Value) : R g .any v := .data (.any v)

theorem R.mono {g g' : Gh} (hg : g.le g') {x : V} {v : Value} (h : R g x v) : R g' x v := by
  induction h with
  | data h => exact .data (h.mono hg.S)
  | nilp => exact .nilp
  | ptr off h => exact .ptr off (hg.β _ _ h).1
  | fp hsp h => exact .fp hsp fun j y hy => let ⟨u, hu, hr⟩ := h j y hy; ⟨u, hg.S _ _ hu, hr.mono hg.S⟩
  | flt h hc hb hd => exact .flt (h.mono hg.S) hc (hg.β _ _ hb).1 (by rw [(hg.β _ _ hb).2]; exact hd)
  | flt0 sz b a => exact .flt0 sz b a
  | ms hb hd hc => exact .ms (hg.β _ _ hb).1 (by rw [(hg.β _ _ hb).2]; exact hd) hc
  | func f ha hb _ _ ih ih' => exact .func f ha hb ih ih'
  | nilf => exact .nilf
  | iface t _ ih => exact .iface t ih
  | nili => exact .nili
  | agg hn _ ih => exact .agg hn ih
  | tup hn _ ih => exact .tup hn ih

/-! What a value looks like. -/
theorem R.bool_inv {g : Gh} {b : Bool} {v : Value} (h : R g (.bool b) v) : v = .bool b := by cases h with | data h => cases h; rfl
theorem R.int_inv {g : Gh} {k n} {v : Value} (h : R g (.int k n) v) : v = .int k n := by cases h with | data h => cases h; rfl
theorem R.str_inv {g : Gh} {s} {v : Value} (h : R g (.str s) v) : v = .string s := by cases h with | data h => cases h; rfl
theorem R.nilp_inv {g : Gh} {v : Value} (h : R g .nilp v) : v = .pointer none := by cases h with | data h => cases h | nilp => rfl
theorem R.nilf_inv {g : Gh} {v : Value} (h : R g .nilf v) : v = .nilFunc := by cases h with | data h => cases h | nilf => rfl
theorem R.nili_inv {g : Gh} {v : Value} (h : R g .nili v) : v = .nilIface := by cases h with | data h => cases h | nili => rfl
theorem R.nils_inv {g : Gh} {v : Value} (h : R g .nils v) : ∃ a, v = .slice a 0 0 := by cases h with | data h => cases h; exact ⟨_, rfl⟩
theorem R.ptr_inv {g : Gh} {b off} {v : Value} (h : R g (.ptr b off) v) : ∃ c, g.β b = some c ∧ v = .pointer (some ⟨c, off, none⟩) := by
  cases h with
  | data h => cases h
  | ptr _ h => exact ⟨_, h, rfl⟩
theorem R.fp_inv {g : Gh} {cs} {v : Value} (h : R g (.fp cs) v) : ∃ ad : Addr, v = .pointer (some ad) ∧ ad.spot = none ∧ ∀ (j : Nat) y, cs[j]? = some y → ∃ u, g.S (ad.add j) = some u ∧ RD g.S y u := by
  cases h with
  | data h => cases h
  | fp hsp h => exact ⟨_, rfl, hsp, h⟩
theorem R.ms_inv {g : Gh} {sz b off len} {v : Value} (h : R g (.ms sz b off len) v) : ∃ c cap, g.β b = some c ∧ off + cap * sz ≤ g.dim b ∧ len ≤ cap ∧ v = .slice (some ⟨c, off, none⟩) len cap := by
  cases h with
  | data h => cases h
  | ms hb hd hc => exact ⟨_, _, hb, hd, hc, rfl⟩
theorem R.agg_inv {g : Gh} {l} {v : Value} (h : R g (.agg l) v) : ∃ cs : Array Value, v = .agg cs ∧ l.length = cs.size ∧ ∀ (i : Nat) x u, l[i]? = some x → cs[i]? = some u → R g x u := by
  cases h with
  | data h => cases h with | agg _ cs hn h => exact ⟨cs, rfl, hn, fun i x u hx hu => .data (h i x u hx hu)⟩
  | agg hn h => exact ⟨_, rfl, hn, h⟩
theorem R.tup_inv {g : Gh} {l} {v : Value} (h : R g (.tup l) v) : ∃ cs : Array Value, v = .tuple cs ∧ l.length = cs.size ∧ ∀ (i : Nat) x u, l[i]? = some x → cs[i]? = some u → R g x u := by
  cases h with
  | data h => cases h
  | tup hn h => exact ⟨_, rfl, hn, h⟩
theorem R.func_inv {g : Gh} {f a b} {v : Value} (h : R g (.func f a b) v) : ∃ a' b' : Array Value, v = .func f a' b' ∧ a.length = a'.size ∧ b.length = b'.size ∧
    (∀ (i : Nat) x u, a[i]? = some x → a'[i]? = some u → R g x u) ∧ (∀ (i : Nat) x u, b[i]? = some x → b'[i]? = some u → R g x u) := by
  cases h with
  | data h => cases h
  | func f ha hb h h' => exact ⟨_, _, rfl, ha, hb, h, h'⟩
theorem R.iface_inv {g : Gh} {t x} {v : Value} (h : R g (.iface t x) v) : ∃ u, v = .iface t u ∧ R g x u := by
  cases h with
  | data h => cases h
  | iface _ h => exact ⟨_, rfl, h⟩
/-- A slice that never changes, with or without the right to append. -/
theorem R.fl_inv {g : Gh} {sz l tok} {v : Value} (h : R g (.fl sz l tok) v) : RD g.S (.fl sz l none) v ∧ (∀ b, tok = some b → (∃ c cap, g.β b = some c ∧ cap * sz ≤ g.dim b ∧ l.length ≤ cap ∧ v = .slice (some ⟨c, 0, none⟩) l.length cap) ∨ (l = [] ∧ ∃ a, v = .slice a 0 0)) := by
  cases h with
  | data h => cases h with
    | fl0 => exact ⟨.fl0 _ _ _, fun b hb => by cases hb⟩
    | fl _ _ ad n cap hn hc hsp f hl hs hr => exact ⟨.fl _ _ _ _ _ hn hc hsp f hl hs hr, fun b hb => by cases hb⟩
  | flt h hc hb hd => exact ⟨h, fun b' hb' => by cases hb'; exact .inl ⟨_, _, hb, hd, hc, rfl⟩⟩
  | flt0 sz b a => exact ⟨.fl0 _ _ _, fun b' _ => .inr ⟨rfl, _, rfl⟩⟩
theorem RD.fl_inv {S : Frz} {sz l} {v : Value} (h : RD S (.fl sz l none) v) : ∃ a cap, v = .slice a l.length cap ∧ l.length ≤ cap ∧ (l ≠ [] → ∃ ad : Addr, a = some ad ∧ ad.spot = none ∧ ∀ (i : Nat) x, l[i]? = some x → x.flat.length = sz ∧ ∀ (j : Nat) y, x.flat[j]? = some y → ∃ u, S (ad.add (i * sz + j)) = some u ∧ RD S y u) := by
  cases h with
  | fl0 => exact ⟨_, _, rfl, Nat.zero_le _, fun h => absurd rfl h⟩
  | fl sz l ad n cap hn hc hsp f hl hs hr => subst hn; exact ⟨_, _, rfl, hc, fun _ => ⟨ad, rfl, hsp, fun i x hx => ⟨hl i x hx, fun j y hy => ⟨_, hs i x j y hx hy, hr i x j y hx hy⟩⟩⟩⟩

theorem add_mk (c off n : Nat) : (⟨c, off, none⟩ : Addr).add n = ⟨c, off + n, none⟩ := by
  unfold Addr.add; split
  · subst_vars; rfl
  · rfl
theorem add_plain {ad : Addr} (h : ad.spot = none) (n : Nat) : ad.add n = ⟨ad.block, ad.off + n, none⟩ := by
  cases ad; simp only at h; subst h; exact add_mk _ _ _

/-- No value of a sure one-cell kind is a row of cells. -/
theorem R.one {g : Gh} {x : V} {v : Value} (h : R g x v) (ho : x.oc = true) : v.cells = #[v] ∧ (∀ cs, v ≠ .agg cs) ∧ (∀ cs, v ≠ .tuple cs) := by
  cases h with
  | data h => cases h <;> first | (cases ho; done) | exact ⟨rfl, by simp, by simp⟩
  | _ => first | (cases ho; done) | exact ⟨rfl, by simp, by simp⟩

/-! Worlds. -/
def EntOk (g : Gh) (w : World) (b : Nat) : Blk → Prop
  | .gone => True
  | .obj t cells => ∀ c, g.β b = some c → ∃ cs, w.heap[c]? = some (.cells cs t (0, 0)) ∧ cs.size = g.dim b ∧ cells.length ≤ cs.size ∧
      (∀ (j : Nat) y, cells[j]? = some y → ∃ u, cs[j]? = some u ∧ R g y u) ∧ ∀ ad u, g.S ad = some u → ad.block ≠ c
  | .tok t n => ∀ c, g.β b = some c → ∃ cs, w.heap[c]? = some (.cells cs t (0, 0)) ∧ cs.size = g.dim b ∧ n ≤ cs.size ∧
      ∀ ad u, g.S ad = some u → ad.block = c → ad.off < n

def Blk.live : Blk → Bool
  | .gone => false
  | _ => true

/-- A world that a walk began in, and the cells that were given away then. -/
structure Base extends World where
  S0 : Frz

/-- What an abstract heap says of a world, beside what an older world said: 'own' tells which of the older world's blocks may have been turned. -/
structure RelH (g : Gh) (h : List Blk) (w0 : Base) (own : Nat → Prop) (w : World) : Prop where
  frz : ∀ ad u, g.S ad = some u → w.cell? ad = some u
  ent : ∀ (b : Nat) x, h[b]? = some x → EntOk g w b x
  lt : ∀ b c, g.β b = some c → b < h.length ∧ c < w.heap.size
  inj : ∀ (b b' : Nat) x x' c, h[b]? = some x → h[b']? = some x' → x.live = true → x'.live = true → g.β b = some c → g.β b' = some c → b = b'
  size : w0.heap.size ≤ w.heap.size
  block : ∀ i, i < w0.heap.size → ¬ own i → w.heap[i]? = w0.heap[i]?
  os : w.os = w0.os
  tape : w.tape = w0.tape
  output : w.output = w0.output
  mine : ∀ (b : Nat) x c, h[b]? = some x → x.live = true → g.β b = some c → own c ∨ w0.heap.size ≤ c
  new : ∀ ad u, g.S ad = some u → w0.S0 ad = some u ∨ own ad.block ∨ w0.heap.size ≤ ad.block

/-- The temporaries. -/
def RelT (g : Gh) (T : List V) (tmps : Array Value) : Prop := T.length = tmps.size ∧ ∀ (i : Nat) x u, T[i]? = some x → tmps[i]? = some u → R g x u

theorem RelT.mono {g g' : Gh} (hg : g.le g') {T tmps} (h : RelT g T tmps) : RelT g' T tmps := ⟨h.1, fun i x u hx hu => (h.2 i x u hx hu).mono hg⟩

theorem RelT.get {g : Gh} {T : List V} {tmps : Array Value} (h : RelT g T tmps) (i : Nat) : R g (T.getD i .any) (tmps.getD i undef) := by
  by_cases hi : i < T.length
  · have hj : i < tmps.size := h.1 ▸ hi
    have e1 : T.getD i .any = T[i] := by simp [hi]
    have e2 : tmps.getD i undef = tmps[i] := by simp [hj]
    rw [e1, e2]
    exact h.2 i _ _ (List.getElem?_eq_getElem hi) (Array.getElem?_eq_getElem hj)
  · have e1 : T.getD i .any = .any := by simp [Nat.le_of_not_lt hi]
    rw [e1]; exact R.any g _

theorem RelT.set {g : Gh} {T : List V} {tmps : Array Value} (h : RelT g T tmps) (d : Nat) {x : V} {v : Value} (hx : R g x v) : RelT g (T.set d x) (tmps.setIfInBounds d v) := by
  refine ⟨by simp [h.1], fun i y u hy hu => ?_⟩
  rw [List.getElem?_set] at hy
  rw [Array.getElem?_setIfInBounds] at hu
  by_cases e : d = i
  · subst e
    rw [if_pos rfl] at hy hu
    split at hy
    · split at hu
      · cases hy; cases hu; exact hx
      · cases hu
    · cases hy
  · rw [if_neg e] at hy hu
    exact h.2 i y u hy hu
end Go.Proofs.Ytlfnhbbgpifidaa.Sx
