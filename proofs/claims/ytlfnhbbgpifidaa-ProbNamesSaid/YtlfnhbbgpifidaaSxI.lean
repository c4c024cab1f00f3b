/- Rows that are written: append to them, make them; slices of slices; aggregates built and compared; least and greatest; bytes and strings. -/
import Derived.Test.YtlfnhbbgpifidaaSxH
import Derived.Great.FillDense
import Derived.Laws.StructEq
namespace Go.Proofs.Ytlfnhbbgpifidaa.Sx
set_option linter.unusedVariables false
set_option linter.unusedSimpArgs false
open Go.RowKit Go.Great

section
variable {cx : Cx} {T : List V} {h : List Blk} {K Kp : KV} {o : Oper}

/-! Aggregates. -/
/-- Parts laid into a row. -/
def bld (pl : Nat → Option (Nat × Nat)) : List V → List (Nat × V) → Option (List V)
  | cells, [] => some cells
  | cells, (i, x) :: r =>
    match pl i with
    | none => none
    | some (off, sz) => if x.known = true ∧ x.flat.length = sz ∧ off + sz ≤ cells.length then bld pl (setL cells off x.flat) r else none

theorem setL_len (cells : List V) (off : Nat) (l : List V) (h : off + l.length ≤ cells.length) : (setL cells off l).length = cells.length := by
  simp only [setL, List.length_append, List.length_take, List.length_drop]; omega
theorem setL_get (cells : List V) (off : Nat) (l : List V) (h : off + l.length ≤ cells.length) (j : Nat) : (setL cells off l)[j]? = if off ≤ j ∧ j < off + l.length then l[j - off]? else cells[j]? := by
  have hlt : (cells.take off).length = off := by simp; omega
  simp only [setL, List.append_assoc]
  by_cases h1 : j < off
  · rw [if_neg (by omega), List.getElem?_append_left (by omega), List.getElem?_take_of_lt h1]
  · rw [List.getElem?_append_right (by omega), hlt]
    by_cases h2 : j < off + l.length
    · rw [if_pos (by omega), List.getElem?_append_left (by omega)]
    · rw [if_neg (by omega), List.getElem?_append_right (by omega), List.getElem?_drop]
      congr 1; omega

theorem foldl_set (vs : List Value) : ∀ (k off : Nat) (cs : Array Value), off + k + vs.length ≤ cs.size →
    ((vs.zipIdx k).foldl (fun cs (p : Value × Nat) => cs.setIfInBounds (off + p.2) p.1) cs).size = cs.size ∧
      ∀ j, ((vs.zipIdx k).foldl (fun cs (p : Value × Nat) => cs.setIfInBounds (off + p.2) p.1) cs)[j]? = if off + k ≤ j ∧ j < off + k + vs.length then vs[j - (off + k)]? else cs[j]? := by
  induction vs with
  | nil => intro k off cs _; exact ⟨rfl, fun j => by simp; omega⟩
  | cons v vs ih =>
    intro k off cs hle
    simp only [List.length_cons] at hle
    obtain ⟨h1, h2⟩ := ih (k + 1) off (cs.setIfInBounds (off + k) v) (by simp; omega)
    simp only [List.zipIdx_cons, List.foldl_cons]
    refine ⟨by rw [h1]; simp, fun j => ?_⟩
    rw [h2 j]
    by_cases e : j = off + k
    · subst e
      rw [if_neg (by omega), if_pos (by simp)]
      simp [Array.getElem?_setIfInBounds]
      omega
    · by_cases h3 : off + (k + 1) ≤ j ∧ j < off + (k + 1) + vs.length
      · rw [if_pos h3, if_pos (by simp only [List.length_cons]; omega), show j - (off + k) = (j - (off + (k + 1))) + 1 by omega, List.getElem?_cons_succ]
      · rw [if_neg h3, if_neg (by simp only [List.length_cons]; omega), Array.getElem?_setIfInBounds]
        rw [if_neg (fun h => e h.symm)]

theorem fill_bld {g : Gh} {pl : Nat → Option (Nat × Nat)} {ρ : Operand → Value} {ε : Operand → V} (hR : ∀ x, R g (ε x) (ρ x)) : ∀ (ps : List (Nat × Operand)) (cells out : List V) (cs : Array Value),
    cells.length = cs.size → (∀ (j : Nat) y u, cells[j]? = some y → cs[j]? = some u → R g y u) → bld pl cells (ps.map fun p => (p.1, ε p.2)) = some out →
    ∃ cs' : Array Value, Instr.fill pl cs (ps.map fun p => (p.1, ρ p.2)) = some cs' ∧ out.length = cs'.size ∧ ∀ (j : Nat) y u, out[j]? = some y → cs'[j]? = some u → R g y u
  | [], cells, out, cs, hl, hr, hb => by
    simp only [List.map_nil, bld, Option.some.injEq] at hb
    subst hb
    exact ⟨cs, rfl, hl, hr⟩
  | (i, x) :: ps, cells, out, cs, hl, hr, hb => by
    simp only [List.map_cons, bld] at hb
    cases hp : pl i with
    | none => rw [hp] at hb; cases hb
    | some q =>
      obtain ⟨off, sz⟩ := q
      rw [hp] at hb
      simp only [] at hb
      split at hb
      · rename_i hc
        obtain ⟨hk, hsz, hle⟩ := hc
        obtain ⟨hn, hrx⟩ := (hR x).cells hk
        have hle' : off + 0 + (ρ x).cells.toList.length ≤ cs.size := by simp; omega
        obtain ⟨f1, f2⟩ := foldl_set (ρ x).cells.toList 0 off cs hle'
        have hset := setL_len cells off (ε x).flat (by omega)
        obtain ⟨cs', h1, h2, h3⟩ := fill_bld hR ps (setL cells off (ε x).flat) out ((((ρ x).cells.toList.zipIdx 0).foldl (fun cs (p : Value × Nat) => cs.setIfInBounds (off + p.2) p.1) cs)) (by rw [hset, f1]; exact hl) (by
          intro j y u hy hu
          rw [setL_get _ _ _ (by omega)] at hy
          rw [f2 j] at hu
          simp only [Nat.add_zero, Array.length_toList] at hu
          split at hy
          · rw [if_pos (by omega)] at hu
            exact hrx _ y u hy (by simpa using hu)
          · rw [if_neg (by omega)] at hu
            exact hr _ y u hy hu) hb
        refine ⟨cs', ?_, h2, h3⟩
        have hset' : off + sz ≤ cs.size := by omega
        simp only [List.map_cons, Instr.fill, hp]
        rw [if_neg (by simp only [Bool.or_eq_true, decide_eq_true_eq]; omega)]
        rw [← h1]
        congr 1
        have : (ρ x).cells.zipIdx = ((ρ x).cells.toList.zipIdx 0).toArray := by apply Array.ext'; simp
        rw [this]
        simp
      · cases hb

/-- Where a struct's fields lie. -/
def plS (P : Program) (t : TypeId) : Option (List (Nat × Nat)) :=
  match P.underlying t with
  | some (.struct fs) => fs.toList.mapM fun f => (P.info? f.type).map fun i => (f.offset, i.size)
  | _ => none
theorem plS_spec {P : Program} {t : TypeId} {l : List (Nat × Nat)} (h : plS P t = some l) (w : World) : ∃ fs, P.underlying t = some (.struct fs) ∧ ((fs.mapM fun f => do pure (f.offset, ← sizeOf f.type) : Sem (Array (Nat × Nat)))).run P w = .ok l.toArray w := by
  unfold plS at h
  split at h
  · rename_i fs hs
    refine ⟨fs, hs, ?_⟩
    rw [Array.mapM_eq_mapM_toList]
    simp only [Sem.run_map]
    generalize fs.toList = fl at *
    clear hs
    have key : ∀ (fl : List Field) (l : List (Nat × Nat)), fl.mapM (fun f => (P.info? f.type).map fun i => (f.offset, i.size)) = some l → (fl.mapM fun f => do pure (f.offset, ← sizeOf f.type) : Sem (List (Nat × Nat))).run P w = .ok l w := by
      intro fl
      induction fl with
      | nil => intro l h; simp at h; subst h; rfl
      | cons f fl ih =>
        intro l h
        simp only [List.mapM_cons, Option.bind_eq_bind, Option.bind_eq_some_iff] at h
        obtain ⟨p, hp, l', hl', hh⟩ := h
        obtain ⟨i, hi, rfl⟩ := Option.map_eq_some_iff.1 hp
        cases hh
        have hsz : (sizeOf f.type).run P w = .ok i.size w := by simp [sizeOf, typeInfo, hi, Result.andThen]
        simp only [List.mapM_cons, Sem.run_bind, hsz, Result.andThen, Sem.run_pure, ih l' hl']
    rw [key fl l h]
    rfl
  · cases h

theorem st_build_struct (t : TypeId) (ps : Array (Nat × Operand)) (ho : o.op = .build t ps) {z : List V} (hz : zer cx.P t = some z) {l : List (Nat × Nat)} (hp : plS cx.P t = some l) {out : List V}
    (hb : bld (fun i => l[i]?) z (ps.toList.map fun p => (p.1, eo cx T p.2)) = some out) (hK : K (.agg out) h) : StepOk cx o T h K Kp := by
  intro g w0 own a w Q hG hT hH _
  unfold zer at hz
  split at hz
  · rename_i i hi
    obtain ⟨zv, hzv, rfl⟩ := Option.map_eq_some_iff.1 hz
    obtain ⟨fs, hs, hm⟩ := plS_spec hp w
    obtain ⟨cs', h1, h2, h3⟩ := fill_bld (g := g) (ρ := a.eval) (ε := eo cx T) (fun x => eo_R hG hT x) ps.toList _ out zv.cells (by simp) (fun j y u hy hu => by
      simp only [List.getElem?_map, Array.getElem?_toList, hu, Option.map_some, Option.some.injEq] at hy
      subst hy; exact cst1_R g u) hb
    refine wp_val (u := .agg cs') ?_ hK (.agg h2 h3) hH
    have e1 : (fun (x : Nat) => l.toArray[x]?) = fun (x : Nat) => l[x]? := by funext x; simp
    have e2 : (Array.map (fun x => (x.fst, a.eval x.snd)) ps).toList = ps.toList.map fun p => (p.1, a.eval p.2) := by simp
    simp only [execOp, ho, Instr.build, Sem.run_bind, zeroValue, typeInfo, run_program, hi, hzv, Result.andThen, Sem.run_pure, run_underlying hs, hm, e1, e2, h1]
  · cases hz

theorem st_build_arr (t : TypeId) (ps : Array (Nat × Operand)) (ho : o.op = .build t ps) {z : List V} (hz : zer cx.P t = some z) {len e} (hel : el cx.P t = .arr len e) {n ag} (ht : ti cx.P e = some (n, ag)) {out : List V}
    (hb : bld (fun i => some (i * n, n)) z (ps.toList.map fun p => (p.1, eo cx T p.2)) = some out) (hK : K (.agg out) h) : StepOk cx o T h K Kp := by
  intro g w0 own a w Q hG hT hH _
  unfold zer at hz
  split at hz
  · rename_i i hi
    obtain ⟨zv, hzv, rfl⟩ := Option.map_eq_some_iff.1 hz
    obtain ⟨cs', h1, h2, h3⟩ := fill_bld (g := g) (ρ := a.eval) (ε := eo cx T) (fun x => eo_R hG hT x) ps.toList _ out zv.cells (by simp) (fun j y u hy hu => by
      simp only [List.getElem?_map, Array.getElem?_toList, hu, Option.map_some, Option.some.injEq] at hy
      subst hy; exact cst1_R g u) hb
    refine wp_val (u := .agg cs') ?_ hK (.agg h2 h3) hH
    have e2 : (Array.map (fun x => (x.fst, a.eval x.snd)) ps).toList = ps.toList.map fun p => (p.1, a.eval p.2) := by simp
    simp only [execOp, ho, Instr.build, Sem.run_bind, zeroValue, typeInfo, run_program, hi, hzv, Result.andThen, Sem.run_pure, run_underlying (el_arr hel), (ti_spec ht w).1, e2, h1]
  · cases hz

/-! A slice of given elements. -/
/-- Data, surely; the right to append is dropped. -/
def V.dat1 : V → Option V
  | .bool b => some (.bool b)
  | .int k n => some (.int k n)
  | .str s => some (.str s)
  | .nils => some .nils
  | .fl sz l _ => some (.fl sz l none)
  | _ => none
def V.dat : V → Option V
  | .agg l => (l.mapM V.dat1).map .agg
  | x => x.dat1
theorem R.dat1 {g : Gh} {x y : V} {v : Value} (h : R g x v) (hd : x.dat1 = some y) : RD g.S y v ∧ y.oc = true := by
  cases x with
  | bool b => cases hd; exact ⟨h.bool_inv ▸ .bool _, rfl⟩
  | int k n => cases hd; exact ⟨h.int_inv ▸ .int _ _, rfl⟩
  | str s => cases hd; exact ⟨h.str_inv ▸ .str _, rfl⟩
  | nils => cases hd; obtain ⟨a, rfl⟩ := h.nils_inv; exact ⟨.nils _, rfl⟩
  | fl sz l t => cases hd; exact ⟨h.fl_inv.1, rfl⟩
  | _ => cases hd
theorem mapM_get {α β : Type} {f : α → Option β} : ∀ {l : List α} {l' : List β}, l.mapM f = some l' → l'.length = l.length ∧ ∀ (i : Nat) y, l'[i]? = some y → ∃ x, l[i]? = some x ∧ f x = some y
  | [], l', h => by simp at h; subst h; simp
  | x :: l, l', h => by
    simp only [List.mapM_cons, Option.bind_eq_bind, Option.bind_eq_some_iff] at h
    obtain ⟨y, hy, r, hr, hh⟩ := h
    cases hh
    obtain ⟨h1, h2⟩ := mapM_get hr
    refine ⟨by simp [h1], fun i z hz => ?_⟩
    cases i with
    | zero => simp at hz; subst hz; exact ⟨x, rfl, hy⟩
    | succ i => exact h2 i z (by simpa using hz)
theorem R.dat {g : Gh} {x y : V} {v : Value} (h : R g x v) (hd : x.dat = some y) : y.flat.length = v.cells.size ∧ ∀ (j : Nat) z u, y.flat[j]? = some z → v.cells[j]? = some u → RD g.S z u := by
  cases x with
  | agg l =>
    simp only [V.dat] at hd
    obtain ⟨l', hl', rfl⟩ := Option.map_eq_some_iff.1 hd
    obtain ⟨cs, rfl, hn, hr⟩ := h.agg_inv
    obtain ⟨h1, h2⟩ := mapM_get hl'
    refine ⟨by simp [V.flat, Value.cells, h1, hn], fun j z u hz hu => ?_⟩
    obtain ⟨x, hx, hxz⟩ := h2 j z hz
    exact ((hr j x u hx hu).dat1 hxz).1
  | any => cases hd
  | _ =>
    simp only [V.dat] at hd
    obtain ⟨h1, h2⟩ := h.dat1 hd
    have hf : y.flat = [y] := by cases y <;> first | rfl | cases h2
    have hc : v.cells = #[v] := (R.one (g := g) (.data h1) h2).1
    rw [hf, hc]
    refine ⟨rfl, fun j z u hz hu => ?_⟩
    cases j with
    | zero => simp at hz hu; subst hz hu; exact h1
    | succ j => simp at hz

theorem zip_map {α β : Type} (f : α → β) (xs : List α) : ∀ k, (xs.zipIdx k).map (fun x => (x.2, f x.1)) = ((xs.map f).zipIdx k).map fun x => (x.2, x.1) := by
  induction xs with
  | nil => intro k; rfl
  | cons x xs ih => intro k; simp [ih]

/-- A row of parts, each at its place. -/
theorem run_buildSlice {P : Program} {w : World} {t e : TypeId} (hel : el P t = .slc e) {sz by_ : Nat} (hz : tz P e = some (sz, by_, sz)) (hs : 0 < sz) (vs : List Value) (h1 : ∀ v ∈ vs, v.cells.size = sz) (hlim : vs.length * sz ≤ 16777216) :
    (Instr.buildSlice t vs.length ((vs.zipIdx 0).map fun x => (x.2, x.1)).toArray).run P w = .ok (.slice (some ⟨w.heap.size, 0, none⟩) vs.length vs.length) (w.alloc (.cells (vs.flatMap fun v => v.cells.toList).toArray e)) := by
  obtain ⟨i, z, hi, hz1, hz2, hz3, hz4⟩ := tz_spec hz
  have hsz : (sizeOf e).run P w = .ok sz w := by simp [sizeOf, typeInfo, hi, hz2, Result.andThen]
  have hlim' : ¬ (vs.length * sz > 2 ^ 24) := by omega
  have hfill := fill_whole hs vs ((Array.range (vs.length * sz)).map (fun j => (if vs.length * sz = 0 then #[] else z.cells)[j % (if vs.length * sz = 0 then #[] else z.cells).size]!)) h1 (by simp)
  by_cases h0 : vs.length * sz = 0
  · have hv : vs = [] := by
      cases vs with
      | nil => rfl
      | cons v l => simp only [List.length_cons, Nat.add_mul] at h0; omega
    subst hv
    simp [Instr.buildSlice, run_underlying (el_slc hel), Result.andThen, hsz, Instr.fill, newRow]
    congr 2
    apply Array.eq_empty_of_size_eq_zero
    simp
  · simp only [if_neg h0] at hfill
    simp only [Instr.buildSlice, Sem.run_bind, run_underlying (el_slc hel), Result.andThen, hsz, if_neg hlim', if_neg h0, zeroValue, typeInfo, run_program, hi, hz1, Sem.run_pure, hfill]
    simp [newRow, Result.andThen]

theorem st_buildSlice (t : TypeId) (n : Nat) (ps : Array (Nat × Operand)) (xs : List Operand) (ho : o.op = .buildSlice t n ps) (hps : ps.toList = (xs.zipIdx 0).map fun x => (x.2, x.1)) (hn : n = xs.length) {e} (hel : el cx.P t = .slc e)
    {sz by_ : Nat} (hz : tz cx.P e = some (sz, by_, sz)) (hs : 0 < sz) {ys : List V} (hd : (xs.map (eo cx T)).mapM V.dat = some ys) (hsz : ∀ y ∈ ys, y.flat.length = sz) (hlim : n * sz ≤ 16777216)
    (hK : K (.fl sz ys (some h.length)) (h ++ [.tok e (n * sz)])) : StepOk cx o T h K Kp := by
  intro g w0 own a w Q hG hT hH _
  obtain ⟨hl, hget⟩ := mapM_get hd
  simp only [List.length_map] at hl
  have hR : ∀ (i : Nat) y, ys[i]? = some y → ∃ x, xs[i]? = some x ∧ y.flat.length = (a.eval x).cells.size ∧ ∀ (j : Nat) z u, y.flat[j]? = some z → (a.eval x).cells[j]? = some u → RD g.S z u := by
    intro i y hy
    obtain ⟨xv, hxv, hdat⟩ := hget i y hy
    simp only [List.getElem?_map, Option.map_eq_some_iff] at hxv
    obtain ⟨x, hx, rfl⟩ := hxv
    exact ⟨x, hx, (eo_R hG hT x).dat hdat⟩
  have hcells : ∀ v ∈ xs.map a.eval, v.cells.size = sz := by
    intro v hv
    obtain ⟨x, hx, rfl⟩ := List.mem_map.1 hv
    obtain ⟨i, hi, rfl⟩ := List.getElem_of_mem hx
    have hi' : i < ys.length := by omega
    obtain ⟨x', hx', h1, _⟩ := hR i _ (List.getElem?_eq_getElem hi')
    rw [List.getElem?_eq_getElem hi] at hx'; cases hx'
    rw [← h1]; exact hsz _ (List.getElem_mem hi')
  have hrun := run_buildSlice (P := cx.P) (w := w) hel hz hs (xs.map a.eval) hcells (by simpa [← hn] using hlim)
  have hszy : ∀ (i : Nat) y, ys[i]? = some y → y.flat.length = sz := fun i y hy => by
    obtain ⟨hi, rfl⟩ := List.getElem?_eq_some_iff.1 hy
    exact hsz _ (List.getElem_mem hi)
  have hfl := flat_len ys hszy
  have hrow : ∀ (k : Nat) z, (ys.flatMap V.flat)[k]? = some z → ∃ u, ((xs.map a.eval).flatMap fun v => v.cells.toList).toArray[k]? = some u ∧ RD g.S z u := by
    intro k z hk
    have hklt : k < ys.length * sz := by rw [← hfl]; exact (List.getElem?_eq_some_iff.1 hk).1
    have hkd : k = k / sz * sz + k % sz := by rw [Nat.mul_comm]; exact (Nat.div_add_mod k sz).symm
    have hmod := Nat.mod_lt k hs
    rw [hkd, flat_get ys hszy _ _ hmod] at hk
    obtain ⟨y, hy, hz'⟩ := Option.bind_eq_some_iff.1 hk
    obtain ⟨x, hx, hlen, hr⟩ := hR _ y hy
    have hj : k % sz < (a.eval x).cells.size := by rw [← hlen, hszy _ y hy]; exact hmod
    refine ⟨(a.eval x).cells[k % sz], ?_, hr _ z _ hz' (Array.getElem?_eq_getElem hj)⟩
    have hfg : ((xs.map a.eval).flatMap fun v => v.cells.toList)[k]? = ((xs.map a.eval)[k / sz]?).bind fun v => v.cells.toList[k % sz]? := by
      have : ∀ (l : List Value), (∀ v ∈ l, v.cells.size = sz) → ∀ (i j : Nat), j < sz → (l.flatMap fun v => v.cells.toList)[i * sz + j]? = (l[i]?).bind fun v => v.cells.toList[j]? := by
        intro l
        induction l with
        | nil => intro _ i j _; simp
        | cons v l ih =>
          intro hv i j hj
          have hvs := hv v (by simp)
          rw [List.flatMap_cons]
          cases i with
          | zero => rw [List.getElem?_append_left (by simp; omega)]; simp
          | succ i =>
            rw [List.getElem?_append_right (by simp only [Array.length_toList, hvs, Nat.add_mul]; omega)]
            simp only [Array.length_toList, hvs]
            rw [show (i + 1) * sz + j - sz = i * sz + j by rw [Nat.add_mul]; omega, ih (fun v hv' => hv v (by simp [hv'])) i j hj]
            simp
      conv => lhs; rw [hkd]
      exact this _ hcells _ _ hmod
    simp only [List.getElem?_toArray, hfg, List.getElem?_map, hx, Option.map_some, Option.bind_some, Array.getElem?_toList]
    exact Array.getElem?_eq_getElem hj
  have hsize : ((xs.map a.eval).flatMap fun v => v.cells.toList).length = ys.length * sz := by
    have : ∀ (l : List Value), (∀ v ∈ l, v.cells.size = sz) → (l.flatMap fun v => v.cells.toList).length = l.length * sz := by
      intro l
      induction l with
      | nil => intro _; simp
      | cons v l ih => intro hv; rw [List.flatMap_cons, List.length_append, ih (fun v hv' => hv v (by simp [hv']))]; simp only [Array.length_toList, hv v (by simp), List.length_cons, Nat.add_mul]; omega
    rw [this _ hcells]; simp [hl]
  obtain ⟨g', hle, hβ, hdim, hS, hH'⟩ := hH.give e (ys.flatMap V.flat) ((xs.map a.eval).flatMap fun v => v.cells.toList).toArray (by rw [hfl, List.size_toArray, hsize]; exact Nat.le_refl _) hrow
  have hex : (execOp a.eval o).run cx.P w = .ok (.value (.slice (some ⟨w.heap.size, 0, none⟩) n n)) (w.alloc (.cells ((xs.map a.eval).flatMap fun v => v.cells.toList).toArray e)) := by
    have e2 : Array.map (fun x => (x.fst, a.eval x.snd)) ps = (((xs.map a.eval).zipIdx 0).map fun x => (x.2, x.1)).toArray := by
      apply Array.ext'
      simp only [Array.toList_map, hps, List.map_map]
      rw [← zip_map]
      rfl
    have hn' : n = (xs.map a.eval).length := by simp [hn]
    simp only [execOp, ho, e2]
    rw [hn', Sem.run_bind, hrun]
    rfl
  unfold Oper.wp; rw [hex]
  rw [hfl, hl, ← hn] at hH'
  have hn2 : n = ys.length := by omega
  refine ⟨g', _, _, _, hle, hK, rfl, ?_, hH'⟩
  have hD : RD g'.S (.fl sz ys none) (.slice (some ⟨w.heap.size, 0, none⟩) ys.length n) := RD_fl_of hszy (by omega) hS
  have : R g' (.fl sz ys (some h.length)) (.slice (some ⟨w.heap.size, 0, none⟩) ys.length n) := by
    refine .flt hD (by omega) hβ ?_
    rw [hdim, List.size_toArray, hsize, hn2]; exact Nat.le_refl _
  rwa [← hn2] at this
end
end Go.Proofs.Ytlfnhbbgpifidaa.Sx
