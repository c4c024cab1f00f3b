/- How an abstract heap follows the world: a new block, a block that is written, a draw; and the operations that store and make. -/
import Derived.Test.YtlfnhbbgpifidaaSxB
import Derived.Below
namespace Go.Proofs.Ytlfnhbbgpifidaa.Sx
set_option linter.unusedVariables false
set_option linter.unusedSimpArgs false
open Go.RowKit

theorem cell?_of {w w' : World} {ad : Addr} (h : w'.heap[ad.block]? = w.heap[ad.block]?) : w'.cell? ad = w.cell? ad := by
  simp [World.cell?, h]

/-- The world turned at one block that an abstract block owns. -/
structure Upd (w w' : World) (c : Nat) (cs : Array Value) (t : TypeId) : Prop where
  new : w'.heap[c]? = some (.cells cs t (0, 0))
  old : ∀ i, i ≠ c → w'.heap[i]? = w.heap[i]?
  size : w'.heap.size = w.heap.size
  os : w'.os = w.os
  tape : w'.tape = w.tape
  output : w'.output = w.output

theorem EntOk.of_heap {g : Gh} {w w' : World} {b : Nat} {x : Blk} (h : EntOk g w b x) (he : ∀ c, g.β b = some c → w'.heap[c]? = w.heap[c]?) : EntOk g w' b x := by
  cases x with
  | gone => trivial
  | obj t l => exact fun c hc => by obtain ⟨cs, h1, h2⟩ := h c hc; exact ⟨cs, (he c hc).trans h1, h2⟩
  | tok t n => exact fun c hc => by obtain ⟨cs, h1, h2⟩ := h c hc; exact ⟨cs, (he c hc).trans h1, h2⟩

theorem RelH.upd {g : Gh} {h : List Blk} {w0 own w w'} (hH : RelH g h w0 own w) {b c : Nat} {t : TypeId} {cells l : List V} {cs : Array Value}
    (hb : h[b]? = some (.obj t cells)) (hc : g.β b = some c) (hu : Upd w w' c cs t) (hsz : cs.size = g.dim b) (hl : l.length ≤ cs.size)
    (hr : ∀ (j : Nat) y, l[j]? = some y → ∃ u, cs[j]? = some u ∧ R g y u) : RelH g (h.set b (.obj t l)) w0 own w' := by
  obtain ⟨cs0, _, _, _, _, hnf⟩ := hH.ent b _ hb c hc
  have hbl : b < h.length := (List.getElem?_eq_some_iff.1 hb).1
  have entry : ∀ (b' : Nat) x, (h.set b (.obj t l))[b']? = some x → (b' = b ∧ x = .obj t l) ∨ (b' ≠ b ∧ h[b']? = some x) := by
    intro b' x hx
    rw [List.getElem?_set] at hx
    by_cases e : b = b'
    · subst e; simp [hbl] at hx; exact .inl ⟨rfl, hx.symm⟩
    · rw [if_neg e] at hx; exact .inr ⟨fun h => e h.symm, hx⟩
  refine { frz := ?_, ent := ?_, lt := ?_, inj := ?_, size := ?_, block := ?_, os := ?_, tape := ?_, output := ?_, mine := ?_, new := hH.new }
  · intro ad u hu'
    rw [cell?_of (hu.old _ (hnf ad u hu'))]
    exact hH.frz ad u hu'
  · intro b' x hx
    rcases entry b' x hx with ⟨rfl, rfl⟩ | ⟨hne, hx⟩
    · intro c' hc'
      rw [hc] at hc'; cases hc'
      exact ⟨cs, hu.new, hsz, hl, hr, hnf⟩
    · by_cases hl : x.live = true
      · refine (hH.ent b' x hx).of_heap fun c' hc' => hu.old _ fun e => ?_
        subst e
        exact hne (hH.inj b' b x _ _ hx hb hl rfl hc' hc)
      · cases x <;> first | trivial | (exfalso; exact hl rfl)
  · intro b' c' h'; have := hH.lt b' c' h'; simp only [List.length_set, hu.size]; exact this
  · intro b1 b2 x x' c' h1 h2 l1 l2 e1 e2
    rcases entry b1 x h1 with ⟨f1, f2⟩ | ⟨n1, k1⟩ <;> rcases entry b2 x' h2 with ⟨f3, f4⟩ | ⟨n2, k2⟩
    · rw [f1, f3]
    · subst f1; exact hH.inj _ _ _ _ _ hb k2 rfl l2 e1 e2
    · subst f3; exact hH.inj _ _ _ _ _ k1 hb l1 rfl e1 e2
    · exact hH.inj _ _ _ _ _ k1 k2 l1 l2 e1 e2
  · rw [hu.size]; exact hH.size
  · intro i hi ho
    refine (hu.old i fun e => ?_).trans (hH.block i hi ho)
    subst e
    rcases hH.mine b _ _ hb rfl hc with h | h
    · exact ho h
    · omega
  · exact hu.os.trans hH.os
  · exact hu.tape.trans hH.tape
  · exact hu.output.trans hH.output
  · intro b' x c' hx hl hc'
    rcases entry b' x hx with ⟨rfl, rfl⟩ | ⟨_, hx⟩
    · exact hH.mine _ _ _ hb rfl hc'
    · exact hH.mine _ _ _ hx hl hc'

theorem RelH.drew {g : Gh} {h w0 own} {w w' : World} (hH : RelH g h w0 own w) (he : w'.heap = w.heap) (h1 : w'.os = w.os) (h2 : w'.tape = w.tape) (h3 : w'.output = w.output) : RelH g h w0 own w' := by
  refine { frz := ?_, ent := ?_, lt := ?_, inj := hH.inj, size := ?_, block := ?_, os := ?_, tape := ?_, output := ?_, mine := hH.mine, new := hH.new }
  · intro ad u hu; rw [cell?_of (w := w) (by rw [he])]; exact hH.frz ad u hu
  · intro b x hx; exact (hH.ent b x hx).of_heap fun c _ => by rw [he]
  · intro b c hb; rw [he]; exact hH.lt b c hb
  · rw [he]; exact hH.size
  · intro i hi ho; rw [he]; exact hH.block i hi ho
  · rw [h1]; exact hH.os
  · rw [h2]; exact hH.tape
  · rw [h3]; exact hH.output

/-- The ghosts with one more abstract block. -/
def Gh.more (g : Gh) (b c n : Nat) : Gh := { g with β := fun i => if i = b then some c else g.β i, dim := fun i => if i = b then n else g.dim i }

theorem Gh.more_le {g : Gh} {b c n : Nat} (hb : g.β b = none) : g.le (g.more b c n) :=
  ⟨fun _ _ h => h, fun b' c' h' => by
    have : b' ≠ b := fun e => by subst e; rw [hb] at h'; cases h'
    simp [Gh.more, this, h']⟩

theorem EntOk.of_le {g g' : Gh} {w : World} {b : Nat} {x : Blk} (h : EntOk g w b x) (hS : g'.S = g.S) (hle : g.le g') (hb : g'.β b = g.β b) (hd : g'.dim b = g.dim b) : EntOk g' w b x := by
  cases x with
  | gone => trivial
  | obj t l =>
    intro c hc
    obtain ⟨cs, h1, h2, h3, h4, h5⟩ := h c (hb ▸ hc)
    exact ⟨cs, h1, hd ▸ h2, h3, fun j y hy => let ⟨u, hu, hr⟩ := h4 j y hy; ⟨u, hu, hr.mono hle⟩, hS ▸ h5⟩
  | tok t n =>
    intro c hc
    obtain ⟨cs, h1, h2, h3, h4⟩ := h c (hb ▸ hc)
    exact ⟨cs, h1, hd ▸ h2, h3, hS ▸ h4⟩

theorem RelH.alloc {g : Gh} {h : List Blk} {w0 own w} (hH : RelH g h w0 own w) (t : TypeId) (l : List V) (cs : Array Value) (hl : l.length ≤ cs.size)
    (hr : ∀ (j : Nat) y, l[j]? = some y → ∃ u, cs[j]? = some u ∧ R g y u) :
    g.le (g.more h.length w.heap.size cs.size) ∧ RelH (g.more h.length w.heap.size cs.size) (h ++ [.obj t l]) w0 own (w.alloc (.cells cs t)) := by
  have hnone : g.β h.length = none := by
    cases e : g.β h.length with
    | none => rfl
    | some c => exact absurd (hH.lt _ _ e).1 (Nat.lt_irrefl _)
  have hle := Gh.more_le (g := g) (b := h.length) (c := w.heap.size) (n := cs.size) hnone
  have hSlt : ∀ ad u, g.S ad = some u → ad.block < w.heap.size := fun ad u hu => World.block_lt_of_cell? w ad (hH.frz ad u hu)
  have hold : ∀ i, i < w.heap.size → (w.alloc (.cells cs t)).heap[i]? = w.heap[i]? := fun i hi => Below.heap_alloc w _ i hi
  have hnew : (w.alloc (.cells cs t)).heap[w.heap.size]? = some (.cells cs t (0, 0)) := by unfold World.alloc; simp
  have entry : ∀ (b' : Nat) x, (h ++ [Blk.obj t l])[b']? = some x → (b' = h.length ∧ x = .obj t l) ∨ (b' < h.length ∧ h[b']? = some x) := by
    intro b' x hx
    rw [List.getElem?_append] at hx
    split at hx
    · exact .inr ⟨‹_›, hx⟩
    · have hb' := (List.getElem?_eq_some_iff.1 hx).1
      simp at hb'
      have : b' = h.length := by omega
      subst this
      simp at hx
      exact .inl ⟨rfl, hx.symm⟩
  refine ⟨hle, { frz := ?_, ent := ?_, lt := ?_, inj := ?_, size := ?_, block := ?_, os := hH.os, tape := hH.tape, output := hH.output, mine := ?_, new := hH.new }⟩
  · intro ad u hu; rw [cell?_of (hold _ (hSlt ad u hu))]; exact hH.frz ad u hu
  · intro b' x hx
    rcases entry b' x hx with ⟨rfl, rfl⟩ | ⟨hlt, hx⟩
    · intro c hc
      simp only [Gh.more, if_true, Option.some.injEq] at hc
      subst hc
      refine ⟨cs, hnew, by simp [Gh.more], hl, fun j y hy => let ⟨u, hu, hr⟩ := hr j y hy; ⟨u, hu, hr.mono hle⟩, fun ad u hu e => ?_⟩
      have := hSlt ad u hu
      omega
    · have hne : b' ≠ h.length := by omega
      have := ((hH.ent b' x hx).of_heap (w' := w.alloc (.cells cs t)) fun c hc => hold c (hH.lt _ _ hc).2)
      exact this.of_le rfl hle (by simp [Gh.more, hne]) (by simp [Gh.more, hne])
  · intro b' c hc
    simp only [Gh.more] at hc
    simp only [List.length_append, List.length_singleton, World.size_alloc]
    split at hc
    · cases hc; omega
    · have := hH.lt _ _ hc; omega
  · intro b1 b2 x x' c h1 h2 l1 l2 e1 e2
    simp only [Gh.more] at e1 e2
    rcases entry b1 x h1 with ⟨rfl, rfl⟩ | ⟨n1, h1⟩ <;> rcases entry b2 x' h2 with ⟨rfl, rfl⟩ | ⟨n2, h2⟩
    · rfl
    · simp only [if_true, Option.some.injEq] at e1
      rw [if_neg (by omega)] at e2
      have := (hH.lt _ _ e2).2; omega
    · simp only [if_true, Option.some.injEq] at e2
      rw [if_neg (by omega)] at e1
      have := (hH.lt _ _ e1).2; omega
    · rw [if_neg (by omega)] at e1 e2
      exact hH.inj _ _ _ _ _ h1 h2 l1 l2 e1 e2
  · simp only [World.size_alloc]; exact Nat.le_succ_of_le hH.size
  · intro i hi ho; exact (hold i (Nat.lt_of_lt_of_le hi hH.size)).trans (hH.block i hi ho)
  · intro b' x c hx hl hc
    simp only [Gh.more] at hc
    rcases entry b' x hx with ⟨rfl, rfl⟩ | ⟨n1, hx⟩
    · simp only [if_true, Option.some.injEq] at hc; subst hc; exact .inr hH.size
    · rw [if_neg (by omega)] at hc; exact hH.mine _ _ _ hx hl hc

section
variable {cx : Cx} {T : List V} {h : List Blk} {K Kp : KV} {o : Oper}

/-- A row written into a row. -/
def setL (cells : List V) (off : Nat) (l : List V) : List V := cells.take off ++ l ++ cells.drop (off + l.length)

/-- A value whose cells are known. -/
def V.known : V → Bool
  | .any | .tup _ => false
  | _ => true

theorem R.cells {g : Gh} {x : V} {v : Value} (h : R g x v) (hk : x.known = true) : x.flat.length = v.cells.size ∧ ∀ (j : Nat) y u, x.flat[j]? = some y → v.cells[j]? = some u → R g y u := by
  by_cases ho : x.oc = true
  · have hf : x.flat = [x] := by cases x <;> first | rfl | cases ho
    rw [(h.one ho).1, hf]
    refine ⟨rfl, fun j y u hy hu => ?_⟩
    cases j with
    | zero => simp at hy hu; subst hy hu; exact h
    | succ j => simp at hy
  · cases x <;> first | (exfalso; exact ho rfl) | (cases hk; done) | skip
    obtain ⟨cs, rfl, hn, hr⟩ := h.agg_inv
    exact ⟨hn, hr⟩

theorem R.each {g : Gh} {l : List V} {cs : Array Value} (hl : l.length = cs.size) (hr : ∀ (j : Nat) y u, l[j]? = some y → cs[j]? = some u → R g y u) : ∀ (j : Nat) y, l[j]? = some y → ∃ u, cs[j]? = some u ∧ R g y u := by
  intro j y hy
  have hj : j < cs.size := hl ▸ (List.getElem?_eq_some_iff.1 hy).1
  exact ⟨_, Array.getElem?_eq_getElem hj, hr j y _ hy (Array.getElem?_eq_getElem hj)⟩

theorem wp_new {P : Program} {o : Oper} {a : Act} {w : World} {g : Gh} {w0 own} {Q} (hH : RelH g h w0 own w) (t : TypeId) (l : List V) (cs : Array Value) (hl : l.length ≤ cs.size)
    (hr : ∀ (j : Nat) y, l[j]? = some y → ∃ u, cs[j]? = some u ∧ R g y u) {v : V} {u : Value}
    (hrun : (execOp a.eval o).run P w = .ok (.value u) (w.alloc (.cells cs t))) (hu : R (g.more h.length w.heap.size cs.size) v u) (hK : K v (h ++ [.obj t l])) : o.wp P a w (Nxt g w0 own a o.dst K) Q := by
  obtain ⟨hle, hH'⟩ := hH.alloc t l cs hl hr
  unfold Oper.wp; rw [hrun]
  exact ⟨_, v, u, _, hle, hK, rfl, hu, hH'⟩

theorem more_β {g : Gh} {b c n : Nat} : (g.more b c n).β b = some c := by simp [Gh.more]
theorem more_dim {g : Gh} {b c n : Nat} : (g.more b c n).dim b = n := by simp [Gh.more]

theorem st_box (t : TypeId) (x : Operand) (ho : o.op = .box t x) (hk : (eo cx T x).known = true) (hK : K (.ptr h.length 0) (h ++ [.obj t (eo cx T x).flat])) : StepOk cx o T h K Kp := by
  intro g w0 own a w Q hG hT hH _
  obtain ⟨hl, hr⟩ := (eo_R hG hT x).cells hk
  exact wp_new hH t _ (a.eval x).cells (Nat.le_of_eq hl) (R.each hl hr) (u := .pointer (some ⟨w.heap.size, 0, none⟩)) (by simp [execOp, ho, Instr.box, newVar, newRow, Result.andThen]) (.ptr 0 more_β) hK

/-- A type's zero value, cell by cell. -/
def zer (P : Program) (t : TypeId) : Option (List V) :=
  match P.info? t with
  | some i => i.zero.map fun z => z.cells.toList.map cst1
  | none => none

theorem st_alloc (t : TypeId) (ho : o.op = .alloc t) {z : List V} (hz : zer cx.P t = some z) (hK : K (.ptr h.length 0) (h ++ [.obj t z])) : StepOk cx o T h K Kp := by
  intro g w0 own a w Q hG hT hH _
  unfold zer at hz
  split at hz
  · rename_i i hi
    obtain ⟨zv, hzv, rfl⟩ := Option.map_eq_some_iff.1 hz
    refine wp_new hH t _ zv.cells (by simp) (R.each (by simp) fun j y u hy hu => ?_) (u := .pointer (some ⟨w.heap.size, 0, none⟩))
      (by simp [execOp, ho, Instr.alloc, zeroValue, typeInfo, hi, hzv, newVar, newRow, Result.andThen]) (.ptr 0 more_β) hK
    simp only [List.getElem?_map, Array.getElem?_toList, hu, Option.map_some, Option.some.injEq] at hy
    subst hy
    exact cst1_R g u
  · cases hz
end
end Go.Proofs.Ytlfnhbbgpifidaa.Sx
