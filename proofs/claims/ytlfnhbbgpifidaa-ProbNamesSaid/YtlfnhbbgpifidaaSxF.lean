/- Calls; what is given away for good; appending. -/
import Derived.Test.YtlfnhbbgpifidaaSxE
import Derived.Laws.Append
namespace Go.Proofs.Ytlfnhbbgpifidaa.Sx
set_option linter.unusedVariables false
set_option linter.unusedSimpArgs false
open Go.RowKit

/-! Calls. -/
def ownOf (g : Gh) (h : List Blk) : Nat → Prop := fun c => ∃ (b : Nat) (x : Blk), h[b]? = some x ∧ x.live = true ∧ g.β b = some c

def hasBody (P : Program) (f : FuncId) : Bool :=
  match P.funcs[f]? with
  | some fn => !(fn.name == "runtime.NumGoroutine") && fn.body.isSome
  | none => false

/-- What a call comes to: K of its result, or Kp of the value it panics with, and of the abstract heap behind it. -/
def ACalls (cx : Cx) (f : FuncId) (args : List V) (h : List Blk) (K Kp : KV) : Prop :=
  hasBody cx.P f = true ∧ ∀ g w (vs : Array Value), GOk cx g → args.length = vs.size → (∀ (i : Nat) x u, args[i]? = some x → vs[i]? = some u → R g x u) → RelH g h { w with S0 := g.S } (ownOf g h) w →
    Calls cx.P f vs w fun e w' => ∃ g' v u h', Gh.leN h.length g g' ∧ R g' v u ∧ RelH g' h' { w with S0 := g.S } (ownOf g h) w' ∧ ((e = .returned u ∧ K v h') ∨ (e = .panicked [{ v := u, recovered := false }] ∧ Kp v h'))

theorem RelH.start {g : Gh} {h : List Blk} {w0 own w} (hH : RelH g h w0 own w) : RelH g h { w with S0 := g.S } (ownOf g h) w :=
  { frz := hH.frz, ent := hH.ent, lt := hH.lt, inj := hH.inj, size := Nat.le_refl _, block := fun _ _ _ => rfl, os := rfl, tape := rfl, output := rfl, mine := fun b x c hx hl hc => .inl ⟨b, x, hx, hl, hc⟩, new := fun _ _ h => .inl h }

theorem RelH.back {g g' : Gh} {h h' : List Blk} {w0 own w w'} (hH : RelH g h w0 own w) (hH' : RelH g' h' { w with S0 := g.S } (ownOf g h) w') : RelH g' h' w0 own w' := by
  refine { frz := hH'.frz, ent := hH'.ent, lt := hH'.lt, inj := hH'.inj, size := Nat.le_trans hH.size hH'.size, block := ?_, os := hH'.os.trans hH.os, tape := hH'.tape.trans hH.tape, output := hH'.output.trans hH.output, mine := ?_, new := ?_ }
  · intro i hi ho
    refine (hH'.block i (Nat.lt_of_lt_of_le hi hH.size) ?_).trans (hH.block i hi ho)
    rintro ⟨b, x, hx, hl, hc⟩
    rcases hH.mine b x i hx hl hc with h | h
    · exact ho h
    · omega
  · intro b x c hx hl hc
    rcases hH'.mine b x c hx hl hc with ⟨b', x', hx', hl', hc'⟩ | h
    · exact hH.mine b' x' c hx' hl' hc'
    · exact .inr (Nat.le_trans hH.size h)
  · intro ad u hu
    rcases hH'.new ad u hu with h | ⟨b, x, hx, hl, hc⟩ | h
    · exact hH.new ad u h
    · exact .inr (hH.mine b x _ hx hl hc)
    · exact .inr (.inr (Nat.le_trans hH.size h))

theorem callFunc_run {P : Program} {f : FuncId} (hb : hasBody P f = true) (vs : Array Value) (w : World) : (callFunc f vs).run P w = .ok (.enter f vs) w := by
  unfold hasBody at hb
  split at hb
  · rename_i fn hf
    simp only [Bool.and_eq_true, Bool.not_eq_true'] at hb
    obtain ⟨h1, h2⟩ := hb
    simp only [callFunc, Sem.run_bind, run_program, Result.andThen, hf, h1]
    cases hbody : fn.body with
    | none => rw [hbody] at h2; cases h2
    | some c => rfl
  · cases hb

section
variable {cx : Cx} {T : List V} {h : List Blk} {K Kp : KV} {o : Oper}

theorem st_call (x : Operand) (xs : Array Operand) (ts : Array TypeId) (ho : o.op = .call { callee := .value x, args := xs, argTypes := ts }) {n : FuncId} {fi ca : List V} (hx : eo cx T x = .func (.func n) fi ca)
    (hK : ACalls cx n (fi ++ xs.toList.map (eo cx T) ++ ca) h K Kp) : StepOk cx o T h K Kp := by
  intro g w0 own a w Q hG hT hH hP
  obtain ⟨fi', ca', e, hn1, hn2, hr1, hr2⟩ := (hx ▸ eo_R hG hT x).func_inv
  obtain ⟨hl, hr⟩ := eo_list hG hT xs
  obtain ⟨hb, hK⟩ := hK
  have hrun : (execOp a.eval o).run cx.P w = .ok (.enter n (fi' ++ xs.map a.eval ++ ca')) w := by
    simp [execOp, ho, resolve, e, Deferred.ofValue, invoke, callFunc_run hb, Result.andThen]
  have hlen : (fi ++ xs.toList.map (eo cx T) ++ ca).length = (fi' ++ xs.map a.eval ++ ca').size := by
    simp only [List.length_append, Array.size_append, hl, hn1, hn2]
  have hrel : ∀ (i : Nat) x u, (fi ++ xs.toList.map (eo cx T) ++ ca)[i]? = some x → (fi' ++ xs.map a.eval ++ ca')[i]? = some u → R g x u := by
    intro i x u hx hu
    rw [List.getElem?_append] at hx
    rw [Array.getElem?_append] at hu
    simp only [List.length_append, Array.size_append] at hx hu
    rw [hn1, hl] at hx
    split at hx
    · rename_i hi
      rw [if_pos hi] at hu
      rw [List.getElem?_append] at hx
      rw [Array.getElem?_append] at hu
      rw [hn1] at hx
      split at hx
      · rename_i hi2; rw [if_pos hi2] at hu; exact hr1 _ _ _ hx hu
      · rename_i hi2; rw [if_neg hi2] at hu; exact hr _ _ _ hx hu
    · rename_i hi
      rw [if_neg hi] at hu
      exact hr2 _ _ _ hx hu
  unfold Oper.wp; rw [hrun, Oper.upon_enter]
  refine (hK g w _ hG hlen hrel hH.start).mono ?_
  rintro e w' ⟨g', v, u, h', hleN, hR, hH', hcase⟩
  have hle : g.le g' := ⟨hleN.S, fun b c hb => hleN.β b c (hH.lt b c hb).1 hb⟩
  rcases hcase with ⟨rfl, hk⟩ | ⟨rfl, hk⟩
  · exact ⟨g', v, u, h', hle, hk, rfl, hR, hH.back hH'⟩
  · exact hP g' v u h' w' hle hk hR (hH.back hH')
end

/-! Rows of elements. -/
theorem flat_get {sz : Nat} : ∀ (l : List V), (∀ (i : Nat) x, l[i]? = some x → x.flat.length = sz) → ∀ (i j : Nat), j < sz → (l.flatMap V.flat)[i * sz + j]? = (l[i]?).bind fun x => x.flat[j]?
  | [], _, i, j, _ => by simp
  | x :: l, h, i, j, hj => by
    have hx := h 0 x rfl
    rw [List.flatMap_cons]
    cases i with
    | zero => rw [List.getElem?_append_left (by omega)]; simp
    | succ i =>
      rw [List.getElem?_append_right (by rw [hx, Nat.add_mul]; omega), hx, show (i + 1) * sz + j - sz = i * sz + j by rw [Nat.add_mul]; omega]
      rw [flat_get l (fun i x hx => h (i + 1) x (by simpa using hx)) i j hj]
      simp
theorem flat_len {sz : Nat} : ∀ (l : List V), (∀ (i : Nat) x, l[i]? = some x → x.flat.length = sz) → (l.flatMap V.flat).length = l.length * sz
  | [], _ => by simp
  | x :: l, h => by
    rw [List.flatMap_cons, List.length_append, h 0 x rfl, flat_len l (fun i x hx => h (i + 1) x (by simpa using hx)), List.length_cons, Nat.add_mul]; omega

/-- A slice of cells that never change, out of the row of its cells. -/
theorem RD_fl_of {S : Frz} {sz : Nat} {l : List V} {c cap : Nat} (hsz : ∀ (i : Nat) x, l[i]? = some x → x.flat.length = sz) (hcap : l.length ≤ cap)
    (hr : ∀ (k : Nat) y, (l.flatMap V.flat)[k]? = some y → ∃ u, S ⟨c, k, none⟩ = some u ∧ RD S y u) : RD S (.fl sz l none) (.slice (some ⟨c, 0, none⟩) l.length cap) := by
  have key : ∀ (i : Nat) x (j : Nat) y, l[i]? = some x → x.flat[j]? = some y → ∃ u, S ((⟨c, 0, none⟩ : Addr).add (i * sz + j)) = some u ∧ RD S y u := by
    intro i x j y hx hy
    have hj : j < sz := by rw [← hsz i x hx]; exact (List.getElem?_eq_some_iff.1 hy).1
    have := hr (i * sz + j) y (by rw [flat_get l hsz i j hj, hx]; exact hy)
    rw [add_mk, Nat.zero_add]; exact this
  refine .fl sz l _ _ cap rfl hcap rfl (fun i j => (S ((⟨c, 0, none⟩ : Addr).add (i * sz + j))).getD undef) hsz (fun i x j y hx hy => ?_) fun i x j y hx hy => ?_
  · obtain ⟨u, hu, _⟩ := key i x j y hx hy; rw [hu]; rfl
  · obtain ⟨u, hu, hr⟩ := key i x j y hx hy; rw [hu]; exact hr

/-- The row of a slice's cells. -/
theorem RD.row {S : Frz} {sz : Nat} {l : List V} {v : Value} (h : RD S (.fl sz l none) v) : ∃ a cap, v = .slice a l.length cap ∧ l.length ≤ cap ∧ (∀ (i : Nat) x, l[i]? = some x → x.flat.length = sz) ∧
    (l ≠ [] → ∃ ad : Addr, a = some ad ∧ ad.spot = none ∧ ∀ (k : Nat) y, (l.flatMap V.flat)[k]? = some y → ∃ u, S (ad.add k) = some u ∧ RD S y u) := by
  obtain ⟨a, cap, rfl, hcap, hl⟩ := h.fl_inv
  refine ⟨a, cap, rfl, hcap, ?_, ?_⟩
  · intro i x hx
    obtain ⟨ad, _, _, hl⟩ := hl (by rintro rfl; simp at hx)
    exact (hl i x hx).1
  · intro hne
    obtain ⟨ad, rfl, hsp, hl⟩ := hl hne
    refine ⟨ad, rfl, hsp, fun k y hy => ?_⟩
    have hsz : ∀ (i : Nat) x, l[i]? = some x → x.flat.length = sz := fun i x hx => (hl i x hx).1
    have hk : k < l.length * sz := by rw [← flat_len l hsz]; exact (List.getElem?_eq_some_iff.1 hy).1
    have hpos : 0 < sz := Nat.pos_of_ne_zero (by rintro rfl; simp at hk)
    have hkd : k = k / sz * sz + k % sz := by rw [Nat.mul_comm]; exact (Nat.div_add_mod k sz).symm
    have hmod := Nat.mod_lt k hpos
    rw [hkd, flat_get l hsz _ _ hmod] at hy
    obtain ⟨x, hx, hy⟩ := Option.bind_eq_some_iff.1 hy
    rw [hkd]
    exact (hl _ x hx).2 _ y hy

/-- The source of an append that rests on cells that never change: its cells are read. -/
theorem src_row {P : Program} {g : Gh} {w : World} {sz : Nat} {l : List V} {v : Value} (h : RD g.S (.fl sz l none) v) (hf : ∀ ad u, g.S ad = some u → w.cell? ad = some u) :
    ∃ us : List Value, us.length = l.length * sz ∧ (Builtin.lenOf v).run P w = .ok l.length w ∧ (∀ w', w'.heap = w.heap → (Builtin.firstCells sz l.length v).run P w' = .ok us.toArray w') ∧
      ∀ (k : Nat) y u, (l.flatMap V.flat)[k]? = some y → us[k]? = some u → RD g.S y u := by
  obtain ⟨a, cap, rfl, hcap, hsz, hl⟩ := h.row
  by_cases hne : l = []
  · subst hne
    refine ⟨[], by simp, rfl, fun w' _ => ?_, by simp⟩
    cases a <;> simp [Builtin.firstCells, loadCells, loadCellsFrom]
  · obtain ⟨ad, rfl, hsp, hl⟩ := hl hne
    obtain ⟨us, hul, hur⟩ := list_of (fun (ky : Nat × V) u => w.cell? (ad.add ky.1) = some u ∧ RD g.S ky.2 u) ((l.flatMap V.flat).zipIdx.map fun p => (p.2, p.1)) (by
      intro k y hy
      simp only [List.getElem?_map, List.getElem?_zipIdx, Option.map_map, Option.map_eq_some_iff] at hy
      obtain ⟨z, hz, rfl⟩ := hy
      obtain ⟨u, hu, hr⟩ := hl k z hz
      exact ⟨u, by simpa using hf _ _ hu, hr⟩)
    simp only [List.length_map, List.length_zipIdx, flat_len l hsz] at hul
    have key : ∀ (k : Nat) z u, (l.flatMap V.flat)[k]? = some z → us[k]? = some u → w.cell? (ad.add k) = some u ∧ RD g.S z u := by
      intro k z u hz hu
      exact hur k (k, z) u (by simp [List.getElem?_zipIdx, hz]) hu
    refine ⟨us, hul, rfl, fun w' he => ?_, fun k y u hy hu => (key k y u hy hu).2⟩
    have := run_loadCells_list (P := P) w' ad us (fun j v hv => by
      have hj : j < us.length := (List.getElem?_eq_some_iff.1 hv).1
      have hc := (key j _ v (List.getElem?_eq_getElem (by rw [flat_len l hsz]; omega)) hv).1
      rw [cell?_of (w := w) (by rw [he])]; exact hc)
    rw [hul] at this
    simpa [Builtin.firstCells] using this

/-- A type's size, bytes and zero cells. -/
def tz (P : Program) (e : TypeId) : Option (Nat × Nat × Nat) :=
  match P.info? e with
  | some i => match i.zero with
    | some z => some (i.size, i.bytes, z.cells.size)
    | none => none
  | none => none
theorem tz_spec {P : Program} {e : TypeId} {sz by_ zs : Nat} (h : tz P e = some (sz, by_, zs)) : ∃ i z, P.info? e = some i ∧ i.zero = some z ∧ i.size = sz ∧ i.bytes = by_ ∧ z.cells.size = zs := by
  unfold tz at h
  split at h
  · rename_i i hi
    split at h
    · rename_i z hz
      simp only [Option.some.injEq, Prod.mk.injEq] at h
      exact ⟨i, z, hi, hz, h.1, h.2.1, h.2.2⟩
    · cases h
  · cases h

/-- What the built-in append does where there is room, and where there is none. -/
theorem append_in {P : Program} {w w' : World} {t t' ty e : TypeId} {e' : TypeDesc} (ht : P.underlying t = some (.slice e)) (ht' : P.underlying t' = some e') (hni : ∀ k, e' ≠ .int k) {sz by_ zs : Nat} (hz : tz P e = some (sz, by_, zs))
    {base : Option Addr} {n cap m : Nat} {x : Value} {us : List Value} (h1 : (Builtin.lenOf x).run P w = .ok m w) (h2 : (Builtin.firstCells sz m x).run P w = .ok us.toArray w) (hle : n + m ≤ cap)
    (hst : match base with | some a => (storeCells (a.add (n * sz)) us).run P w = .ok () w' | none => w' = w) :
    (Builtin.append_ #[t, t'] ty #[.slice base n cap, x]).run P w = .ok (.slice base (n + m) cap) w' := by
  obtain ⟨i, z, hi, hz1, hz2, hz3, hz4⟩ := tz_spec hz
  have hzero : (match e' with | .int _ => true | _ => false) = false := by cases e' <;> first | rfl | exact absurd rfl (hni _)
  simp only [Builtin.append_]
  simp [run_underlying ht, run_underlying ht', sizeOf, typeInfo, hi, hz2, Result.andThen, h1, hle, h2]
  cases base with
  | none => subst hst; cases e' <;> first | exact absurd rfl (hni _) | simp [Result.andThen, h1, hle, h2]
  | some a => cases e' <;> first | exact absurd rfl (hni _) | (simp only [] at hst; simp [Result.andThen, h1, hle, h2, hst])
end Go.Proofs.Ytlfnhbbgpifidaa.Sx
