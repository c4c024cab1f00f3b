/- Regions whose operations may come in many orders: the simulation. -/
import Derived.Test.YtlfnhbbgpifidaaSxR
namespace Go.Proofs.Ytlfnhbbgpifidaa.Sx
set_option linter.unusedVariables false
set_option linter.unusedSimpArgs false
open Go.RowKit
open Classical in
/-- The temporaries, but for those that wait. -/
noncomputable def maskT (T : List V) (pend : Nat → Prop) : List V := (List.range T.length).map fun s => if pend s then .any else T.getD s .any

theorem maskT_len {T : List V} {pend : Nat → Prop} : (maskT T pend).length = T.length := by simp [maskT]
theorem maskT_get {T : List V} {pend : Nat → Prop} {s : Nat} (hp : ¬ pend s) : (maskT T pend).getD s .any = T.getD s .any := by
  by_cases hs : s < T.length
  · simp [maskT, hs, hp]
  · simp [maskT, Nat.le_of_not_lt hs]

structure Stat (ops : List Oper) (t : List (Nat × Nat)) : Prop where
  anc : Anc ops t
  sl : ∀ (i : Nat) (o : Oper), ops[i]? = some o → ∀ s ∈ seesT ops o, ∀ p, dstAt ops p = some s → (ancOf t i).testBit p = true ∨ (quietAt ops p = false ∧ (ancOf t p).testBit i = true)
  nd : ∀ p q s, dstAt ops p = some s → dstAt ops q = some s → p = q

theorem dstAt_lt {ops : List Oper} {p s : Nat} (h : dstAt ops p = some s) : p < ops.length := by
  unfold dstAt at h
  rcases Nat.lt_or_ge p ops.length with h' | h'
  · exact h'
  · rw [List.getElem?_eq_none h'] at h; cases h

theorem nodup_spec : ∀ (ops : List Oper), nodupB (ops.filterMap (·.dst)) = true → ∀ p q s, dstAt ops p = some s → dstAt ops q = some s → p = q
  | [], _, p, q, s, hp, _ => by simp [dstAt] at hp
  | o :: r, h, p, q, s, hp, hq => by
    have hr : nodupB (r.filterMap (·.dst)) = true := by
      rw [List.filterMap_cons] at h
      split at h
      · exact h
      · simp only [nodupB, Bool.and_eq_true] at h; exact h.2
    have mem : ∀ p s, dstAt r p = some s → s ∈ r.filterMap (·.dst) := by
      intro p s hp
      obtain ⟨o', ho', hd⟩ := Option.bind_eq_some_iff.1 hp
      exact List.mem_filterMap.2 ⟨o', List.mem_of_getElem? ho', hd⟩
    have hd0 : ∀ p, dstAt r p = some s → o.dst ≠ some s := by
      intro p hp e
      rw [List.filterMap_cons, e] at h
      simp only [nodupB, Bool.and_eq_true, Bool.not_eq_true'] at h
      have := mem p s hp
      rw [List.contains_eq_mem, decide_eq_false_iff_not] at h
      exact h.1 this
    cases p with
    | zero =>
      cases q with
      | zero => rfl
      | succ q => exact absurd (by simpa [dstAt] using hp) (hd0 q (by simpa [dstAt] using hq))
    | succ p =>
      cases q with
      | zero => exact absurd (by simpa [dstAt] using hq) (hd0 p (by simpa [dstAt] using hp))
      | succ q => rw [nodup_spec r hr p q s (by simpa [dstAt] using hp) (by simpa [dstAt] using hq)]

theorem stat_of {ops : List Oper} {t : List (Nat × Nat)} (ht : Anc ops t) (h : ((List.range ops.length).all (slotsOk ops t) && nodupB (ops.filterMap (·.dst))) = true) :
    Stat ops t ∧ ∀ (i : Nat) (o : Oper), ops[i]? = some o → (quiet o.op || silent o.op || isCallV o.op) = true := by
  simp only [Bool.and_eq_true, List.all_eq_true, List.mem_range] at h
  have key : ∀ (i : Nat) (o : Oper), ops[i]? = some o → slotsOk ops t i = true := fun i o ho => h.1 i (List.getElem?_eq_some_iff.1 ho).1
  refine ⟨⟨ht, fun i o ho s hs p hp => ?_, nodup_spec ops h.2⟩, fun i o ho => ?_⟩
  · have := key i o ho
    unfold slotsOk at this
    rw [ho] at this
    simp only [Bool.and_eq_true, List.all_eq_true, List.mem_range] at this
    have := this.1 s hs p (dstAt_lt hp)
    rw [hp] at this
    simp only [bne_self_eq_false, Bool.false_or, Bool.or_eq_true, Bool.and_eq_true, Bool.not_eq_true'] at this
    exact this
  · have := key i o ho
    unfold slotsOk at this
    rw [ho] at this
    simp only [Bool.and_eq_true] at this
    exact this.2

def ckW (cx : Cx) (op : Op) (dst : Option Tmp) (T : List V) (h : List Blk) : Prop :=
  (sx cx op T h).2.2 ∧ ∀ d, dst = some d → d < T.length → T.getD d .any = (sx cx op T h).1
def anyW (T : List V) (dst : Option Tmp) : Prop := ∀ d, dst = some d → T.getD d .any = .any

/-- A walk that is ahead of the machine by what leaves the memory as it is. -/
structure Inv (cx : Cx) (ops : List Oper) (w0 : Base) (own : Nat → Prop) (df : List Deferred) (done : List Nat) (T : List V) (h : List Blk) (listed : Array Bool) (g : Gh) (a : Act) (w : World) : Prop where
  hG : GOk cx g
  hH : RelH g h w0 own w
  hd : a.defers = df
  len : T.length = a.tmps.size
  topo : ∀ pre i post, done = pre ++ i :: post → ∀ d ∈ depsAt ops i, d ∈ pre
  bnd : ∀ i ∈ done, i < ops.length
  sz : listed.size = ops.length
  sub : ∀ i, listed.getD i false = true → i ∈ done
  clL : ∀ i, listed.getD i false = true → ∀ d ∈ depsAt ops i, listed.getD d false = true
  qui : ∀ i ∈ done, listed.getD i false = false → quietAt ops i = true
  tmp : ∀ (s : Nat) x u, T[s]? = some x → a.tmps[s]? = some u → (∀ i ∈ done, listed.getD i false = false → dstAt ops i ≠ some s) → R g x u
  pen : ∀ i ∈ done, listed.getD i false = false → ∀ o, ops[i]? = some o → gdV T (gdAt ops o.guard) (ckW cx o.op o.dst T h) (anyW T o.dst)

def Pend (ops : List Oper) (done : List Nat) (listed : Array Bool) (s : Nat) : Prop := ∃ i ∈ done, listed.getD i false = false ∧ dstAt ops i = some s

section
variable {cx : Cx} {ops : List Oper} {t : List (Nat × Nat)} {w0 : Base} {own : Nat → Prop} {df : List Deferred} {done : List Nat} {T : List V} {h : List Blk} {listed : Array Bool} {g : Gh} {a : Act} {w : World}

theorem Inv.clD (I : Inv cx ops w0 own df done T h listed g a w) : ∀ i, i ∈ done → ∀ d ∈ depsAt ops i, d ∈ done := by
  intro i hi d hd
  obtain ⟨pre, post, e⟩ := List.append_of_mem hi
  rw [e]
  exact List.mem_append_left _ (I.topo pre i post e d hd)

theorem Inv.mask (I : Inv cx ops w0 own df done T h listed g a w) : RelT g (maskT T (Pend ops done listed)) a.tmps := by
  refine ⟨by rw [maskT_len, I.len], fun s x u hx hu => ?_⟩
  have hs : s < T.length := by rw [← maskT_len (T := T) (pend := Pend ops done listed)]; exact (List.getElem?_eq_some_iff.1 hx).1
  by_cases hp : Pend ops done listed s
  · simp [maskT, hs, hp] at hx
    subst hx; exact R.any g u
  · simp [maskT, hs, hp] at hx
    subst hx
    exact I.tmp s _ u (List.getElem?_eq_getElem hs) hu fun i hi hl e => hp ⟨i, hi, hl, e⟩

theorem Inv.clear (I : Inv cx ops w0 own df done T h listed g a w) (st : Stat ops t) {i : Nat} {o : Oper} (ho : ops[i]? = some o) (hd : ∀ d ∈ depsAt ops i, listed.getD d false = true) {s : Nat} (hs : s ∈ seesT ops o) : ¬ Pend ops done listed s := by
  rintro ⟨p, hp, hl, hds⟩
  rcases st.sl i o ho s hs p hds with h1 | ⟨h1, _⟩
  · have := st.anc (fun k => listed.getD k false = true) I.clL i hd p h1
    rw [hl] at this; cases this
  · rw [I.qui p hp hl] at h1; cases h1

theorem seesT_op {o : Oper} {s : Nat} (hs : Operand.tmp s ∈ o.op.operands.toList) : s ∈ seesT ops o := by
  unfold seesT; exact List.mem_append_left _ (tmpsOf_mem.2 hs)
theorem seesT_gd {o : Oper} {s : Nat} {b : Bool} (hs : gdAt ops o.guard = some (some s, b)) : s ∈ seesT ops o := by
  unfold seesT
  refine List.mem_append_right _ ?_
  unfold gdAt at hs
  split at hs
  · cases hs
  · rename_i j w' hg
    rw [hg]
    simp only [Option.some.injEq, Prod.mk.injEq] at hs
    simp [slotG, hs.1]

theorem Inv.agree (I : Inv cx ops w0 own df done T h listed g a w) (st : Stat ops t) {i : Nat} {o : Oper} (ho : ops[i]? = some o) (hd : ∀ d ∈ depsAt ops i, listed.getD d false = true) :
    Agree T (maskT T (Pend ops done listed)) o.op.operands.toList := fun s hs => (maskT_get (I.clear st ho hd (seesT_op hs))).symm

theorem Inv.guard (I : Inv cx ops w0 own df done T h listed g a w) (st : Stat ops t) {i : Nat} {o : Oper} (ho : ops[i]? = some o) (hd : ∀ d ∈ depsAt ops i, listed.getD d false = true) {ar : Array Oper} (har : ar.toList = ops)
    {yes no : Prop} (hgd : gdV T (gdAt ops o.guard) yes no) : (Region.wanted o (yielded ar a.tmps) = true ∧ yes) ∨ (Region.wanted o (yielded ar a.tmps) = false ∧ no) := by
  rcases gdV_cases hgd with ⟨e, hy⟩ | ⟨s, b, e, hh⟩
  · refine .inl ⟨?_, hy⟩
    cases hg : o.guard with
    | none => simp [Region.wanted, hg]
    | some p => rw [hg] at e; cases e
  · have hm := maskT_get (T := T) (I.clear st ho hd (seesT_gd e))
    have hR := I.mask.get s
    rw [hm] at hR
    cases hg : o.guard with
    | none => rw [hg] at e; cases e
    | some p =>
      obtain ⟨j, want⟩ := p
      rw [hg] at e
      simp only [gdAt, Option.some.injEq, Prod.mk.injEq] at e
      obtain ⟨e1, rfl⟩ := e
      have hs : gslot ar.toList j = some s := by rw [har]; exact e1
      rcases hh with ⟨hv, hy⟩ | ⟨hv, hn⟩
      · rw [hv] at hR
        refine .inl ⟨?_, hy⟩
        simp [Region.wanted, hg, yielded_of hs hR.bool_inv]
      · rw [hv] at hR
        refine .inr ⟨?_, hn⟩
        simp only [Region.wanted, hg, yielded_of hs hR.bool_inv]
        cases want <;> rfl

/-- An operation that is carried out. -/
theorem Inv.exec (I : Inv cx ops w0 own df done T h listed g a w) (st : Stat ops t) {i : Nat} {o : Oper} (ho : ops[i]? = some o) (hd : ∀ d ∈ depsAt ops i, listed.getD d false = true) {ar : Array Oper} (har : ar.toList = ops)
    {Q : Exit → Act → World → Prop} {Kv Kp : KV} {no : Prop} {K : Act → World → Prop}
    (hgd : gdV T (gdAt ops o.guard) (StepOk cx o (maskT T (Pend ops done listed)) h Kv Kp) no) (hp : Pan g w0 own a Kp Q)
    (h1 : ∀ g' v u h' w', g.le g' → Kv v h' → R g' v u → RelH g' h' w0 own w' → K (a.put o.dst u) w') (h2 : no → K (a.put o.dst undef) w) : wpOp cx.P ar Q i K a w := by
  have hi : ar[i]? = some o := by rw [← Array.getElem?_toList, har]; exact ho
  unfold wpOp
  rw [hi]
  rcases I.guard st ho hd har hgd with ⟨hw, hy⟩ | ⟨hw, hn⟩
  · simp only [hw, if_true]
    refine .inl (Oper.wp_mono (K := Nxt g w0 own a o.dst Kv) ?_ (hy g w0 own a w Q I.hG I.mask I.hH hp))
    rintro a' w' ⟨g', v, u, h', hle, hk, rfl, hR, hH'⟩
    exact h1 g' v u h' w' hle hk hR hH'
  · simp only [hw, Bool.false_eq_true, if_false]
    exact h2 hn
end
end Go.Proofs.Ytlfnhbbgpifidaa.Sx
