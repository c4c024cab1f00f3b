/- The steps of append, and of a row that grows. -/
import Derived.Test.YtlfnhbbgpifidaaSxG
namespace Go.Proofs.Ytlfnhbbgpifidaa.Sx
set_option linter.unusedVariables false
set_option linter.unusedSimpArgs false
open Go.RowKit

/-- A right to append to a slice that is nil: no block stands behind it. -/
theorem RelH.ghost {g : Gh} {h : List Blk} {w0 own w} (hH : RelH g h w0 own w) (x : Blk) : RelH g (h ++ [x]) w0 own w ∧ g.β h.length = none := by
  have hnone : g.β h.length = none := by
    cases e : g.β h.length with
    | none => rfl
    | some c => exact absurd (hH.lt _ _ e).1 (Nat.lt_irrefl _)
  have entry : ∀ (b' : Nat) y, (h ++ [x])[b']? = some y → b' = h.length ∨ h[b']? = some y := by
    intro b' y hy
    rw [List.getElem?_append] at hy
    split at hy
    · exact .inr hy
    · have hb' := (List.getElem?_eq_some_iff.1 hy).1
      simp at hb'
      exact .inl (by omega)
  refine ⟨{ frz := hH.frz, ent := ?_, lt := ?_, inj := ?_, size := hH.size, block := hH.block, os := hH.os, tape := hH.tape, output := hH.output, mine := ?_, new := hH.new }, hnone⟩
  · intro b' y hy
    rcases entry b' y hy with rfl | hy
    · cases y with
      | gone => trivial
      | obj t l => intro c hc; rw [hnone] at hc; cases hc
      | tok t n => intro c hc; rw [hnone] at hc; cases hc
    · exact hH.ent b' y hy
  · intro b' c hc; have := hH.lt b' c hc; simp; omega
  · intro b1 b2 x x' c h1 h2 l1 l2 e1 e2
    rcases entry b1 _ h1 with rfl | h1
    · rw [hnone] at e1; cases e1
    · rcases entry b2 _ h2 with rfl | h2
      · rw [hnone] at e2; cases e2
      · exact hH.inj _ _ _ _ _ h1 h2 l1 l2 e1 e2
  · intro b' y c hy hl hc
    rcases entry b' y hy with rfl | hy
    · rw [hnone] at hc; cases hc
    · exact hH.mine _ _ _ hy hl hc

/-- An owned block under a new number. -/
theorem RelH.renum {g : Gh} {h : List Blk} {w0 own w} (hH : RelH g h w0 own w) {b c : Nat} {t : TypeId} {l : List V} (hb : h[b]? = some (.obj t l)) (hc : g.β b = some c) :
    g.le (g.more h.length c (g.dim b)) ∧ RelH (g.more h.length c (g.dim b)) (h.set b .gone ++ [.obj t l]) w0 own w := by
  have hbl : b < h.length := (List.getElem?_eq_some_iff.1 hb).1
  have hnone : g.β h.length = none := by
    cases e : g.β h.length with
    | none => rfl
    | some c => exact absurd (hH.lt _ _ e).1 (Nat.lt_irrefl _)
  have hle := Gh.more_le (c := c) (n := g.dim b) hnone
  have entry : ∀ (b' : Nat) x, (h.set b .gone ++ [Blk.obj t l])[b']? = some x → (b' = h.length ∧ x = .obj t l) ∨ (b' < h.length ∧ x = .gone) ∨ (b' < h.length ∧ b' ≠ b ∧ h[b']? = some x) := by
    intro b' x hx
    rw [List.getElem?_append] at hx
    simp only [List.length_set] at hx
    split at hx
    · rename_i hlt
      rw [List.getElem?_set] at hx
      by_cases e : b = b'
      · subst e; simp [hlt] at hx; exact .inr (.inl ⟨hlt, hx.symm⟩)
      · rw [if_neg e] at hx; exact .inr (.inr ⟨hlt, fun h => e h.symm, hx⟩)
    · have hb' := (List.getElem?_eq_some_iff.1 hx).1
      simp at hb'
      have : b' = h.length := by omega
      subst this
      simp at hx
      exact .inl ⟨rfl, hx.symm⟩
  have hβ : ∀ b', b' < h.length → (g.more h.length c (g.dim b)).β b' = g.β b' ∧ (g.more h.length c (g.dim b)).dim b' = g.dim b' := fun b' hb' => by simp [Gh.more, Nat.ne_of_lt hb']
  refine ⟨hle, { frz := hH.frz, ent := ?_, lt := ?_, inj := ?_, size := hH.size, block := hH.block, os := hH.os, tape := hH.tape, output := hH.output, mine := ?_, new := hH.new }⟩
  · intro b' x hx
    rcases entry b' x hx with ⟨rfl, rfl⟩ | ⟨_, rfl⟩ | ⟨hlt, hne, hx⟩
    · intro c' hc'
      rw [more_β] at hc'; cases hc'
      obtain ⟨cs, h1, h2, h3, h4, h5⟩ := hH.ent b _ hb c hc
      exact ⟨cs, h1, by rw [more_dim]; exact h2, h3, fun j y hy => let ⟨u, hu, hr⟩ := h4 j y hy; ⟨u, hu, hr.mono hle⟩, h5⟩
    · trivial
    · exact (hH.ent b' x hx).of_le rfl hle (hβ b' hlt).1 (hβ b' hlt).2
  · intro b' c' hc'
    simp only [List.length_append, List.length_set, List.length_singleton]
    by_cases e : b' = h.length
    · subst e; rw [more_β] at hc'; cases hc'; have := (hH.lt _ _ hc).2; omega
    · have : g.β b' = some c' := by simpa [Gh.more, e] using hc'
      have := hH.lt _ _ this; omega
  · intro b1 b2 x x' c' h1 h2 l1 l2 e1 e2
    rcases entry b1 x h1 with ⟨f1, f2⟩ | ⟨_, rfl⟩ | ⟨n1, m1, k1⟩
    · rcases entry b2 x' h2 with ⟨f3, f4⟩ | ⟨_, rfl⟩ | ⟨n2, m2, k2⟩
      · rw [f1, f3]
      · cases l2
      · subst f1
        rw [more_β] at e1; cases e1
        rw [(hβ b2 n2).1] at e2
        exact absurd (hH.inj b2 b _ _ _ k2 hb l2 rfl e2 hc) m2
    · cases l1
    · rcases entry b2 x' h2 with ⟨f3, f4⟩ | ⟨_, rfl⟩ | ⟨n2, m2, k2⟩
      · subst f3
        rw [more_β] at e2; cases e2
        rw [(hβ b1 n1).1] at e1
        exact absurd (hH.inj b1 b _ _ _ k1 hb l1 rfl e1 hc) m1
      · cases l2
      · rw [(hβ b1 n1).1] at e1; rw [(hβ b2 n2).1] at e2
        exact hH.inj _ _ _ _ _ k1 k2 l1 l2 e1 e2
  · intro b' x c' hx hl hc'
    rcases entry b' x hx with ⟨f1, f2⟩ | ⟨_, rfl⟩ | ⟨n1, m1, k1⟩
    · subst f1; rw [more_β] at hc'; cases hc'; exact hH.mine b _ _ hb rfl hc
    · cases hl
    · rw [(hβ b' n1).1] at hc'; exact hH.mine _ _ _ k1 hl hc'

theorem one_of_oc {S : Frz} {y : V} {u : Value} (h : RD S y u) (ho : y.oc = true) : u.oneCell' = true := by
  cases h <;> first | rfl | cases ho

section
variable {cx : Cx} {T : List V} {h : List Blk} {K Kp : KV} {o : Oper}

theorem exec_append {P : Program} {o : Oper} {a : Act} {w w' : World} {s x : Operand} {t t' : TypeId} {v : Value} (ho : o.op = .call { callee := .builtin .append, args := #[s, x], argTypes := #[t, t'] })
    (hrun : (Builtin.append_ #[t, t'] o.type #[a.eval s, a.eval x]).run P w = .ok v w') : (execOp a.eval o).run P w = .ok (.value v) w' := by
  simp [execOp, ho, resolve, invoke, builtin, hrun, Result.andThen]

theorem el_not_int {P : Program} {t : TypeId} {e} (h : el P t = .slc e) : ∃ d, P.underlying t = some d ∧ ∀ k, d ≠ .int k := ⟨_, el_slc h, by simp⟩

/-- To a nil slice, or to one that may be nil. -/
theorem st_append_new (s x : Operand) (t t' : TypeId) (ho : o.op = .call { callee := .builtin .append, args := #[s, x], argTypes := #[t, t'] }) {e e'} (ht : el cx.P t = .slc e) (ht' : el cx.P t' = .slc e')
    {sz by_ : Nat} (hz : tz cx.P e = some (sz, by_, sz)) (h0 : 0 < by_) (hs : eo cx T s = .nils) {ys : List V} {tok} (hx : eo cx T x = .fl sz ys tok) (hroom : ys.length * by_ ≤ 140737488355328)
    (hK : K (.fl sz ys (some h.length)) (h ++ [.tok e (ys.length * sz)])) : StepOk cx o T h K Kp := by
  intro g w0 own a w Q hG hT hH _
  obtain ⟨base, es⟩ := (hs ▸ eo_R hG hT s).nils_inv
  have hxD := ((hx ▸ eo_R hG hT x).fl_inv).1
  obtain ⟨_, _, _, _, hsz, _⟩ := hxD.row
  obtain ⟨us, hul, h1, h2, hr⟩ := src_row (P := cx.P) hxD hH.frz
  obtain ⟨d, hd, hni⟩ := el_not_int ht'
  by_cases hy : ys = []
  · subst hy
    simp at hul
    subst hul
    have hrun := append_in (P := cx.P) (w := w) (w' := w) (ty := o.type) (el_slc ht) hd hni hz (base := base) (n := 0) (cap := 0) (m := 0) (x := a.eval x) (us := []) h1 (h2 w rfl) (Nat.le_refl _)
      (by cases base with
        | none => rfl
        | some ad => rfl)
    obtain ⟨hH', hnone⟩ := hH.ghost (.tok e (0 * sz))
    have hex := exec_append ho (by rw [es]; exact hrun)
    unfold Oper.wp; rw [hex]
    exact ⟨g, _, _, _, .refl g, hK, rfl, .flt0 _ _ _, by simpa using hH'⟩
  · have hpos : 0 < ys.length := List.length_pos_iff.2 hy
    obtain ⟨nc, w1, rest, hnc, e1, e2, e3, e4, hrl, hrun⟩ := append_out (P := cx.P) (w := w) (ty := o.type) (el_slc ht) hd hni hz rfl (base := base) (n := 0) (cap := 0) (m := ys.length) (x := a.eval x) (us := us) (old := []) h1 h2
      (fun w' _ => by cases base <;> simp [Builtin.firstCells, loadCells, loadCellsFrom]) (by omega) (by simpa using hroom) h0
    simp only [Nat.zero_add, List.nil_append] at hrun hnc hrl
    have hH1 := hH.drew e1 e2 e3 e4
    have hfl := flat_len ys hsz
    obtain ⟨g', hle, hβ, hdim, hS, hH'⟩ := hH1.give e (ys.flatMap V.flat) (us ++ rest).toArray (by simp only [List.size_toArray, List.length_append]; omega) (fun j y hy => by
      have hj : j < us.length := by rw [hul, ← hfl]; exact (List.getElem?_eq_some_iff.1 hy).1
      exact ⟨us[j], by simp [List.getElem?_append_left hj, List.getElem?_eq_getElem hj], hr j y _ hy (List.getElem?_eq_getElem hj)⟩)
    have hex := exec_append ho (by rw [es]; exact hrun)
    unfold Oper.wp; rw [hex]
    rw [hfl] at hH'
    rw [e1] at hβ hS
    refine ⟨g', _, _, _, hle, hK, rfl, ?_, hH'⟩
    have hD : RD g'.S (.fl sz ys none) (.slice (some ⟨w.heap.size, 0, none⟩) ys.length nc) := RD_fl_of hsz hnc hS
    refine .flt hD hnc hβ ?_
    rw [hdim]
    simp only [List.size_toArray, List.length_append, hul, hrl]
    rw [← Nat.add_mul]
    exact Nat.mul_le_mul_right _ (by omega)

/-- To a slice with the right to append. -/
theorem st_append_tok (s x : Operand) (t t' : TypeId) (ho : o.op = .call { callee := .builtin .append, args := #[s, x], argTypes := #[t, t'] }) {e e'} (ht : el cx.P t = .slc e) (ht' : el cx.P t' = .slc e')
    {sz by_ : Nat} (hz : tz cx.P e = some (sz, by_, sz)) (h0 : 0 < by_) {l : List V} {b : Nat} (hs : eo cx T s = .fl sz l (some b)) (hb : h[b]? = some (.tok e (l.length * sz)))
    {ys : List V} {tok} (hx : eo cx T x = .fl sz ys tok) (hroom : (l.length + ys.length) * by_ ≤ 140737488355328) (hoc : (ys.flatMap V.flat).all V.oc = true)
    (hK : K (.fl sz (l ++ ys) (some h.length)) (h.set b .gone ++ [.tok e ((l.length + ys.length) * sz)])) : StepOk cx o T h K Kp := by
  intro g w0 own a w Q hG hT hH _
  obtain ⟨hsD, hstok⟩ := (hs ▸ eo_R hG hT s).fl_inv
  have hxD := ((hx ▸ eo_R hG hT x).fl_inv).1
  obtain ⟨_, _, _, _, hsz, _⟩ := hxD.row
  obtain ⟨us, hul, h1, h2, hr⟩ := src_row (P := cx.P) hxD hH.frz
  obtain ⟨d, hd, hni⟩ := el_not_int ht'
  obtain ⟨_, _, _, _, hszl, _⟩ := hsD.row
  have hfl := flat_len ys hsz
  have hfll := flat_len l hszl
  have hszA : ∀ (i : Nat) z, (l ++ ys)[i]? = some z → z.flat.length = sz := by
    intro i z hz'
    rw [List.getElem?_append] at hz'
    split at hz'
    · exact hszl i z hz'
    · exact hsz _ z hz'
  rcases hstok b rfl with ⟨c, cap, hc, hdim, hcap, es⟩ | ⟨hl0, base, es⟩
  · by_cases hle : l.length + ys.length ≤ cap
    · -- there is room
      obtain ⟨cs, hcs, hcsz, hn, hnf⟩ := hH.ent b _ hb c hc
      have hone : ∀ v ∈ us, v.oneCell' = true := by
        intro v hv
        obtain ⟨j, hj, e'⟩ := List.getElem_of_mem hv
        have hj' : j < (ys.flatMap V.flat).length := by omega
        have hRD := hr j _ v (List.getElem?_eq_getElem hj') (by rw [List.getElem?_eq_getElem hj, e'])
        rw [List.all_eq_true] at hoc
        exact one_of_oc hRD (hoc _ (List.getElem_mem hj'))
      have hfit : (l.length + ys.length) * sz ≤ cs.size := by rw [hcsz]; exact Nat.le_trans (Nat.mul_le_mul_right _ hle) hdim
      rw [Nat.add_mul] at hfit
      have hst := run_storeCells_at (P := cx.P) c (l.length * sz) e us 0 cs w hcs (by omega) hone
      simp only [Nat.add_zero] at hst
      have hrun := append_in (P := cx.P) (w := w) (w' := w.setRow c (cs.toList.take (l.length * sz) ++ us ++ cs.toList.drop (l.length * sz + us.length)).toArray) (ty := o.type) (el_slc ht) hd hni hz (base := some ⟨c, 0, none⟩) (n := l.length) (cap := cap) (m := ys.length) (x := a.eval x) (us := us) h1 (h2 w rfl) hle
        (by simp only [add_mk, Nat.zero_add]; exact hst)
      have hget : ∀ k, (cs.toList.take (l.length * sz) ++ us ++ cs.toList.drop (l.length * sz + us.length)).toArray[k]? = if k < l.length * sz then cs[k]? else if k < l.length * sz + us.length then us[k - l.length * sz]? else cs[k]? := by
        intro k
        simp only [List.getElem?_toArray, List.append_assoc]
        have hlt : (cs.toList.take (l.length * sz)).length = l.length * sz := by simp; omega
        split
        · rw [List.getElem?_append_left (by omega), List.getElem?_take_of_lt ‹_›]; simp
        · rw [List.getElem?_append_right (by omega), hlt]
          split
          · rw [List.getElem?_append_left (by omega)]
          · rw [List.getElem?_append_right (by omega), List.getElem?_drop]
            rw [show l.length * sz + us.length + (k - l.length * sz - us.length) = k by omega]; simp
      obtain ⟨g', hle', hβ, hdim', hS, hH'⟩ := hH.giveMore (cs := (cs.toList.take (l.length * sz) ++ us ++ cs.toList.drop (l.length * sz + us.length)).toArray) (w' := w.setRow c (cs.toList.take (l.length * sz) ++ us ++ cs.toList.drop (l.length * sz + us.length)).toArray) (ys.flatMap V.flat) hb hc
        ⟨setRow_heap w c cs _ e _ hcs, fun i hi => by
          unfold World.setRow
          simp only [Array.getElem?_modify]
          rw [if_neg (fun e => hi e.symm)], by simp, rfl, rfl, rfl⟩
        (by simp only [List.size_toArray, List.length_append, List.length_take, List.length_drop, Array.length_toList]; omega) (by simp only [List.size_toArray, List.length_append, List.length_take, List.length_drop, Array.length_toList]; omega)
        (fun ad u hu hblk => by
          rw [hget, if_pos (hnf ad u hu hblk)]
          have := hH.frz ad u hu
          rw [← hblk] at hcs
          simp only [World.cell?, hcs] at this
          split at this
          · cases this
          · exact this)
        (fun j y hy => by
          have hj : j < us.length := by rw [hul, ← hfl]; exact (List.getElem?_eq_some_iff.1 hy).1
          refine ⟨us[j], ?_, hr j y _ hy (List.getElem?_eq_getElem hj)⟩
          rw [hget, if_neg (by omega), if_pos (by omega), show l.length * sz + j - l.length * sz = j by omega, List.getElem?_eq_getElem hj])
      have hex := exec_append ho (by rw [es]; exact hrun)
      unfold Oper.wp; rw [hex]
      rw [hfl, ← Nat.add_mul] at hH'
      refine ⟨g', _, _, _, hle', hK, rfl, ?_, hH'⟩
      have hD : RD g'.S (.fl sz (l ++ ys) none) (.slice (some ⟨c, 0, none⟩) (l ++ ys).length cap) := by
        refine RD_fl_of hszA (by simpa using hle) fun k y hy => ?_
        rw [List.flatMap_append, List.getElem?_append] at hy
        split at hy
        · obtain ⟨_, _, e', _, _, hlr⟩ := hsD.row
          rw [es] at e'
          cases e'
          have hne : l ≠ [] := by rintro rfl; simp at hy
          obtain ⟨ad, hade, hsp, hlr⟩ := hlr hne
          cases hade
          obtain ⟨u, hu, hr⟩ := hlr k y hy
          rw [add_mk, Nat.zero_add] at hu
          exact ⟨u, hle'.S _ _ hu, hr.mono hle'.S⟩
        · obtain ⟨u, hu, hr⟩ := hS _ y hy
          rw [hfll] at hu
          rename_i hk
          rw [show l.length * sz + (k - l.length * sz) = k by omega] at hu
          exact ⟨u, hu, hr⟩
      have : R g' (.fl sz (l ++ ys) (some h.length)) (.slice (some ⟨c, 0, none⟩) (l ++ ys).length cap) := .flt hD (by simpa using hle) hβ (by rw [hdim']; exact hdim)
      rwa [List.length_append] at this
    · -- there is none
      obtain ⟨old, holen, hold1, hold, horel⟩ := src_row (P := cx.P) hsD hH.frz
      rw [es] at hold1 hold
      obtain ⟨nc, w1, rest, hnc, e1, e2, e3, e4, hrl, hrun⟩ := append_out (P := cx.P) (w := w) (ty := o.type) (el_slc ht) hd hni hz rfl (base := some ⟨c, 0, none⟩) (n := l.length) (cap := cap) (m := ys.length) (x := a.eval x) (us := us) (old := old) h1 h2 hold (by omega) hroom h0
      have hH1 := (hH.drew e1 e2 e3 e4).kill b
      have hrow : ∀ (j : Nat) y, ((l ++ ys).flatMap V.flat)[j]? = some y → ∃ u, (old ++ us ++ rest).toArray[j]? = some u ∧ RD g.S y u := by
        intro j y hy
        rw [List.flatMap_append, List.getElem?_append] at hy
        simp only [List.getElem?_toArray, List.append_assoc]
        split at hy
        · have hj : j < old.length := by omega
          exact ⟨old[j], by rw [List.getElem?_append_left hj, List.getElem?_eq_getElem hj], horel j y _ hy (List.getElem?_eq_getElem hj)⟩
        · rename_i hnj
          have hj : j - (l.flatMap V.flat).length < us.length := by rw [hul, ← hfl]; exact (List.getElem?_eq_some_iff.1 hy).1
          refine ⟨us[j - (l.flatMap V.flat).length], ?_, hr _ y _ hy (List.getElem?_eq_getElem hj)⟩
          rw [List.getElem?_append_right (by omega), holen, ← hfll, List.getElem?_append_left hj, List.getElem?_eq_getElem hj]
      have hlenA : ((l ++ ys).flatMap V.flat).length = (l.length + ys.length) * sz := by rw [flat_len _ hszA, List.length_append]
      obtain ⟨g', hle', hβ, hdim', hS, hH'⟩ := hH1.give e ((l ++ ys).flatMap V.flat) (old ++ us ++ rest).toArray (by rw [hlenA, Nat.add_mul]; simp only [List.size_toArray, List.length_append]; omega) hrow
      have hex := exec_append ho (by rw [es]; exact hrun)
      unfold Oper.wp; rw [hex]
      simp only [List.length_set] at hβ hdim' hH'
      rw [hlenA] at hH'
      rw [e1] at hβ hS
      refine ⟨g', _, _, _, hle', hK, rfl, ?_, hH'⟩
      have hD : RD g'.S (.fl sz (l ++ ys) none) (.slice (some ⟨w.heap.size, 0, none⟩) (l ++ ys).length nc) := RD_fl_of hszA (by simpa using hnc) hS
      have : R g' (.fl sz (l ++ ys) (some h.length)) (.slice (some ⟨w.heap.size, 0, none⟩) (l ++ ys).length nc) := by
        refine .flt hD (by simpa using hnc) hβ ?_
        rw [hdim']
        simp only [List.size_toArray, List.length_append, hul, hrl, holen]
        rw [← Nat.add_mul, ← Nat.add_mul]
        exact Nat.mul_le_mul_right _ (by omega)
      rwa [List.length_append] at this
  · -- it is nil
    subst hl0
    simp only [List.length_nil, Nat.zero_add, List.nil_append] at hroom hK
    by_cases hy : ys = []
    · subst hy
      simp at hul
      subst hul
      have hrun := append_in (P := cx.P) (w := w) (w' := w) (ty := o.type) (el_slc ht) hd hni hz (base := base) (n := 0) (cap := 0) (m := 0) (x := a.eval x) (us := []) h1 (h2 w rfl) (Nat.le_refl _)
        (by cases base with
          | none => rfl
          | some ad => rfl)
      obtain ⟨hH', hnone⟩ := (hH.kill b).ghost (.tok e (0 * sz))
      have hex := exec_append ho (by rw [es]; exact hrun)
      unfold Oper.wp; rw [hex]
      exact ⟨g, _, _, _, .refl g, hK, rfl, .flt0 _ _ _, by simpa using hH'⟩
    · obtain ⟨nc, w1, rest, hnc, e1, e2, e3, e4, hrl, hrun⟩ := append_out (P := cx.P) (w := w) (ty := o.type) (el_slc ht) hd hni hz rfl (base := base) (n := 0) (cap := 0) (m := ys.length) (x := a.eval x) (us := us) (old := []) h1 h2
        (fun w' _ => by cases base <;> simp [Builtin.firstCells, loadCells, loadCellsFrom]) (by have := List.length_pos_iff.2 hy; omega) (by simpa using hroom) h0
      simp only [Nat.zero_add, List.nil_append] at hrun hnc hrl
      have hH1 := (hH.drew e1 e2 e3 e4).kill b
      obtain ⟨g', hle, hβ, hdim, hS, hH'⟩ := hH1.give e (ys.flatMap V.flat) (us ++ rest).toArray (by simp only [List.size_toArray, List.length_append]; omega) (fun j y hy => by
        have hj : j < us.length := by rw [hul, ← hfl]; exact (List.getElem?_eq_some_iff.1 hy).1
        exact ⟨us[j], by simp [List.getElem?_append_left hj, List.getElem?_eq_getElem hj], hr j y _ hy (List.getElem?_eq_getElem hj)⟩)
      have hex := exec_append ho (by rw [es]; exact hrun)
      unfold Oper.wp; rw [hex]
      simp only [List.length_set] at hβ hdim hH'
      rw [hfl] at hH'
      rw [e1] at hβ hS
      refine ⟨g', _, _, _, hle, hK, rfl, ?_, hH'⟩
      have hD : RD g'.S (.fl sz ys none) (.slice (some ⟨w.heap.size, 0, none⟩) ys.length nc) := RD_fl_of hsz hnc hS
      refine .flt hD hnc hβ ?_
      rw [hdim]
      simp only [List.size_toArray, List.length_append, hul, hrl]
      rw [← Nat.add_mul]
      exact Nat.mul_le_mul_right _ (by omega)
end
end Go.Proofs.Ytlfnhbbgpifidaa.Sx
