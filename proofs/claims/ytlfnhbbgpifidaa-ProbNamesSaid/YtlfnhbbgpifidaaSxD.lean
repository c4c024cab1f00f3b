/- The operations that only compute, and those that write. -/
import Derived.Test.YtlfnhbbgpifidaaSxC
import Derived.Laws.Tables
namespace Go.Proofs.Ytlfnhbbgpifidaa.Sx
set_option linter.unusedVariables false
set_option linter.unusedSimpArgs false
open Go.RowKit

section
variable {cx : Cx} {T : List V} {h : List Blk} {K Kp : KV} {o : Oper}

theorem st_store_ptr (t : TypeId) (x y : Operand) (ho : o.op = .store t x y) {b off : Nat} (hx : eo cx T x = .ptr b off) {ty cells} (hb : h[b]? = some (.obj ty cells))
    {n : Nat} {ag : Bool} (ht : ti cx.P t = some (n, ag)) (hk : (eo cx T y).known = true) (hn : (eo cx T y).flat.length = n) (hoc : (eo cx T y).flat.all V.oc = true) (hle : off + n ≤ cells.length)
    (hK : K .any (h.set b (.obj ty (setL cells off (eo cx T y).flat)))) : StepOk cx o T h K Kp := by
  intro g w0 own a w Q hG hT hH _
  obtain ⟨c, hc, e⟩ := (hx ▸ eo_R hG hT x).ptr_inv
  have hy := eo_R hG hT y
  obtain ⟨hl, hr⟩ := hy.cells hk
  obtain ⟨cs, hcs, hsz, hcl, hcr, hnf⟩ := hH.ent b _ hb c hc
  generalize eo cx T y = yv at *
  generalize hyu : a.eval y = yu at *
  have hone : ∀ v ∈ yu.cells.toList, v.oneCell' = true := by
    intro v hv
    obtain ⟨j, hj, e'⟩ := List.getElem_of_mem hv
    simp at hj
    have hj' : j < yv.flat.length := by omega
    have hR := hr j _ _ (List.getElem?_eq_getElem hj') (Array.getElem?_eq_getElem hj)
    have hoc' : (yv.flat[j]).oc = true := by
      rw [List.all_eq_true] at hoc
      exact hoc _ (List.getElem_mem hj')
    have h1 := hR.one hoc'
    simp at e'
    subst e'
    generalize yu.cells[j] = z at *
    obtain ⟨_, h2, h3⟩ := h1
    cases z <;> first | rfl | exact absurd rfl (h2 _) | exact absurd rfl (h3 _)
  have hrun := run_storeCells_at (P := cx.P) c off ty yu.cells.toList 0 cs w hcs (by simp; omega) hone
  simp only [Nat.add_zero, Array.length_toList] at hrun
  have hst : (execOp a.eval o).run cx.P w = .ok .skip (w.setRow c (cs.toList.take off ++ yu.cells.toList ++ cs.toList.drop (off + yu.cells.size)).toArray) := by
    simp only [List.append_assoc] at hrun ⊢
    simp [execOp, ho, e, hyu, Instr.storeAt, Instr.sureAddr, storeVar, (ti_spec ht w).1, Result.andThen, show yu.cells.size = n by omega, hrun]
  unfold Oper.wp; rw [hst]
  refine ⟨g, .any, undef, _, .refl g, hK, rfl, R.any _ _, hH.upd (cs := (cs.toList.take off ++ yu.cells.toList ++ cs.toList.drop (off + yu.cells.size)).toArray) hb hc ?_ ?_ ?_ ?_⟩
  · refine ⟨setRow_heap w c cs _ ty _ hcs, fun i hi => ?_, by simp, rfl, rfl, rfl⟩
    unfold World.setRow
    simp only [Array.getElem?_modify]
    rw [if_neg (fun e => hi e.symm)]
  · simp only [List.size_toArray, List.length_append, List.length_take, List.length_drop, Array.length_toList]; omega
  · simp only [setL, List.size_toArray, List.length_append, List.length_take, List.length_drop, Array.length_toList]; omega
  · intro j z hz
    simp only [setL] at hz
    simp only [List.getElem?_toArray]
    have hjl : j < cells.length := by
      have := (List.getElem?_eq_some_iff.1 hz).1
      simp only [List.length_append, List.length_take, List.length_drop] at this
      omega
    by_cases h1 : j < off
    · rw [List.append_assoc, List.getElem?_append_left (by simp; omega), List.getElem?_take_of_lt h1] at hz
      obtain ⟨u, hu, hR⟩ := hcr j z hz
      refine ⟨u, ?_, hR⟩
      rw [List.append_assoc, List.getElem?_append_left (by simp; omega), List.getElem?_take_of_lt h1]
      simpa using hu
    · by_cases h2 : j < off + yu.cells.size
      · rw [List.append_assoc, List.getElem?_append_right (by simp; omega), List.getElem?_append_left (by simp; omega)] at hz
        have e1 : j - (cells.take off).length = j - off := by simp; omega
        rw [e1] at hz
        have hj : j - off < yu.cells.size := by omega
        refine ⟨_, ?_, hr (j - off) z _ hz (Array.getElem?_eq_getElem hj)⟩
        rw [List.append_assoc, List.getElem?_append_right (by simp; omega), List.getElem?_append_left (by simp; omega)]
        have e2 : j - (cs.toList.take off).length = j - off := by simp; omega
        rw [e2]
        simp [hj]
      · rw [List.getElem?_append_right (by simp; omega), List.getElem?_drop] at hz
        have e1 : off + yv.flat.length + (j - (cells.take off ++ yv.flat).length) = j := by simp; omega
        rw [e1] at hz
        obtain ⟨u, hu, hR⟩ := hcr j z hz
        refine ⟨u, ?_, hR⟩
        rw [List.getElem?_append_right (by simp; omega), List.getElem?_drop]
        have e2 : off + yu.cells.size + (j - (cs.toList.take off ++ yu.cells.toList).length) = j := by simp; omega
        rw [e2]
        simpa using hu

theorem st_fieldAddr_ptr (s : TypeId) (x : Operand) (f : Nat) (ho : o.op = .fieldAddr s x f) {b off : Nat} (hx : eo cx T x = .ptr b off) {fof ft} (hf : fo cx.P s f = some (fof, ft))
    (hK : K (.ptr b (off + fof)) h) : StepOk cx o T h K Kp := by
  intro g w0 own a w Q hG hT hH _
  obtain ⟨c, hc, e⟩ := (hx ▸ eo_R hG hT x).ptr_inv
  obtain ⟨fs, x', n, bb, h1, h2, h3, h4, h5, h6⟩ := fo_spec hf
  subst h4
  refine wp_val (u := .pointer (some ⟨c, off + fof, none⟩)) ?_ hK (.ptr _ hc) hH
  simp [execOp, ho, e, Instr.fieldAt, run_underlying h1, h2, Instr.sureAddr, fieldPlace, (ti_spec h5 w).1, h6, Result.andThen, add_mk, h3]

theorem st_fieldAddr_fp (s : TypeId) (x : Operand) (f : Nat) (ho : o.op = .fieldAddr s x f) {cs : List V} (hx : eo cx T x = .fp cs) {fof ft} (hf : fo cx.P s f = some (fof, ft))
    (hK : K (.fp (cs.drop fof)) h) : StepOk cx o T h K Kp := by
  intro g w0 own a w Q hG hT hH _
  obtain ⟨ad, e, hsp, hcs⟩ := (hx ▸ eo_R hG hT x).fp_inv
  obtain ⟨fs, x', n, bb, h1, h2, h3, h4, h5, h6⟩ := fo_spec hf
  subst h4
  refine wp_val (u := .pointer (some (ad.add fof))) ?_ hK (.fp (by rw [add_plain hsp]) fun j y hy => ?_) hH
  · simp [execOp, ho, e, Instr.fieldAt, run_underlying h1, h2, Instr.sureAddr, fieldPlace, (ti_spec h5 w).1, h6, Result.andThen, h3]
  · rw [List.getElem?_drop] at hy
    obtain ⟨u, hu, hr⟩ := hcs _ y hy
    refine ⟨u, ?_, hr⟩
    rw [add_plain hsp] at hu ⊢
    rw [add_mk, ← hu]
    congr 2
    omega

/-- What is surely not nil, and has no method behind it. -/
def V.sure : V → Bool
  | .ptr _ _ | .fp _ | .func (.func _) _ _ => true
  | _ => false
theorem st_nilCheck (x : Operand) (ho : o.op = .nilCheck x) (hs : (eo cx T x).sure = true) (hK : K (eo cx T x) h) : StepOk cx o T h K Kp := by
  intro g w0 own a w Q hG hT hH _
  have hR := eo_R hG hT x
  refine wp_val (u := a.eval x) ?_ hK hR hH
  generalize eo cx T x = xv at *
  generalize hxu : a.eval x = xu at *
  have hn : xu ≠ .pointer none ∧ xu ≠ .nilIface ∧ xu ≠ .nilFunc ∧ (∀ n f c, xu ≠ .func (.method n) f c) := by
    cases xv with
    | ptr => obtain ⟨c, _, rfl⟩ := hR.ptr_inv; simp
    | fp => obtain ⟨c, rfl, _⟩ := hR.fp_inv; simp
    | func f l1 l2 =>
      obtain ⟨a', b', rfl, _⟩ := hR.func_inv
      cases f <;> first | (cases hs; done) | simp
    | _ => cases hs
  obtain ⟨h1, h2, h3, h4⟩ := hn
  simp only [execOp, ho, hxu]
  cases xu <;> first | rfl | exact absurd rfl h2 | exact absurd rfl h3 | skip

theorem st_field (t : TypeId) (x : Operand) (f : Nat) (ho : o.op = .field t x f) {l : List V} (hx : eo cx T x = .agg l) {fof ft n ag} (hf : fo cx.P t f = some (fof, ft)) (ht : ti cx.P ft = some (n, ag))
    (hK : if ag then K (.agg ((l.drop fof).take n)) h else ∃ y, l[fof]? = some y ∧ K y h) : StepOk cx o T h K Kp := by
  intro g w0 own a w Q hG hT hH _
  obtain ⟨cs, e, hn, hr⟩ := (hx ▸ eo_R hG hT x).agg_inv
  obtain ⟨fs, x', n', bb, h1, h2, h3, h4, h5, h6⟩ := fo_spec hf
  subst h4 h3
  cases ag with
  | false =>
    obtain ⟨y, hy, hK⟩ := hK
    have hj : x'.offset < cs.size := hn ▸ (List.getElem?_eq_some_iff.1 hy).1
    refine wp_val (u := cs[x'.offset]) ?_ hK (hr _ _ _ hy (Array.getElem?_eq_getElem hj)) hH
    simp [execOp, ho, e, Instr.field, run_underlying h1, h2, asAgg, part, (ti_spec ht w).2, Result.andThen, Array.getElem?_eq_getElem hj]
  | true =>
    refine wp_val (u := .agg (cs.extract x'.offset (x'.offset + n))) ?_ hK (.agg (by simp; omega) fun i y u hy hu => ?_) hH
    · simp [execOp, ho, e, Instr.field, run_underlying h1, h2, asAgg, part, (ti_spec ht w).2, (ti_spec ht w).1, Result.andThen]
    · simp only [List.getElem?_take, List.getElem?_drop] at hy
      rw [Array.getElem?_extract] at hu
      split at hy
      · split at hu
        · exact hr _ _ _ hy hu
        · cases hu
      · cases hy

theorem st_index_arr (t : TypeId) (x y : Operand) (ho : o.op = .index t x y) {l : List V} (hx : eo cx T x = .agg l) {k i} (hy : eo cx T y = .int k i) {len et} (hel : el cx.P t = .arr len et) {n ag} (ht : ti cx.P et = some (n, ag))
    (h0 : 0 ≤ i) (h1 : i < len) (hK : if ag then K (.agg ((l.drop (i.toNat * n)).take n)) h else ∃ z, l[i.toNat * n]? = some z ∧ K z h) : StepOk cx o T h K Kp := by
  intro g w0 own a w Q hG hT hH _
  obtain ⟨cs, e, hn, hr⟩ := (hx ▸ eo_R hG hT x).agg_inv
  have ey := (hy ▸ eo_R hG hT y).int_inv
  cases ag with
  | false =>
    obtain ⟨z, hz, hK⟩ := hK
    have hj : i.toNat * n < cs.size := hn ▸ (List.getElem?_eq_some_iff.1 hz).1
    refine wp_val (u := cs[i.toNat * n]) ?_ hK (hr _ _ _ hz (Array.getElem?_eq_getElem hj)) hH
    simp [execOp, ho, e, ey, Instr.index, asIntOf, run_underlying (el_arr hel), h0, h1, part, (ti_spec ht w).2, (ti_spec ht w).1, Result.andThen, Array.getElem?_eq_getElem hj]
  | true =>
    refine wp_val (u := .agg (cs.extract (i.toNat * n) (i.toNat * n + n))) ?_ hK (.agg (by simp; omega) fun i y u hy hu => ?_) hH
    · simp [execOp, ho, e, ey, Instr.index, asIntOf, run_underlying (el_arr hel), h0, h1, part, (ti_spec ht w).2, (ti_spec ht w).1, Result.andThen]
    · simp only [List.getElem?_take, List.getElem?_drop] at hy
      rw [Array.getElem?_extract] at hu
      split at hy
      · split at hu
        · exact hr _ _ _ hy hu
        · cases hu
      · cases hy

theorem st_index_str (t : TypeId) (x y : Operand) (ho : o.op = .index t x y) {s : ByteArray} (hx : eo cx T x = .str s) {k i} (hy : eo cx T y = .int k i) (hel : el cx.P t = .str)
    (h0 : 0 ≤ i) (h1 : i.toNat < s.size) (hK : K (.int .u8 (s[i.toNat]'h1).toNat) h) : StepOk cx o T h K Kp := by
  intro g w0 own a w Q hG hT hH _
  have e := (hx ▸ eo_R hG hT x).str_inv
  have ey := (hy ▸ eo_R hG hT y).int_inv
  refine wp_val (u := .int .u8 (s[i.toNat]'h1).toNat) ?_ hK (.data (.int _ _)) hH
  simp [execOp, ho, e, ey, Instr.index, asIntOf, run_underlying (el_str hel), h0, h1, Result.andThen]
end
end Go.Proofs.Ytlfnhbbgpifidaa.Sx
