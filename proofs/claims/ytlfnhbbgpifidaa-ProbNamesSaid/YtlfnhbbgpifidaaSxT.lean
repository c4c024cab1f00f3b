/- Regions whose operations may come in many orders: the steps of the simulation, and that the walk of the tree of orders suffices. -/
import Derived.Test.YtlfnhbbgpifidaaSxS
namespace Go.Proofs.Ytlfnhbbgpifidaa.Sx
set_option linter.unusedVariables false
set_option linter.unusedSimpArgs false
open Go.RowKit

theorem gdV_map {T T' : List V} {gd : Gd} {y n y' n' : Prop} (h : gdV T gd y n) (hs : ∀ s w, gd = some (some s, w) → T'.getD s .any = T.getD s .any) (hy : y → y') (hn : n → n') : gdV T' gd y' n' := by
  rcases gdV_cases h with ⟨e, hh⟩ | ⟨s, w, e, ⟨hv, hh⟩ | ⟨hv, hh⟩⟩
  · exact gdV_yes (.inl e) (hy hh)
  · exact gdV_yes (.inr ⟨s, w, e, by rw [hs s w e, hv]⟩) (hy hh)
  · subst e; exact gdV_no (by rw [hs s w rfl, hv]) (hn hh)
theorem gdV_and {T : List V} {gd : Gd} {y n y' n' : Prop} (h : gdV T gd y n) (h' : gdV T gd y' n') : gdV T gd (y ∧ y') (n ∧ n') := by
  rcases gdV_cases h with ⟨e, hh⟩ | ⟨s, w, e, hh⟩
  · rcases gdV_cases h' with ⟨_, hh'⟩ | ⟨s, w, e', _⟩
    · exact gdV_yes (.inl e) ⟨hh, hh'⟩
    · rw [e] at e'; cases e'
  · rcases gdV_cases h' with ⟨e', _⟩ | ⟨s', w', e', hh'⟩
    · rw [e] at e'; cases e'
    · rw [e] at e'; cases e'
      rcases hh with ⟨hv, hh⟩ | ⟨hv, hh⟩ <;> rcases hh' with ⟨hv', hh'⟩ | ⟨hv', hh'⟩
      · exact gdV_yes (.inr ⟨s, w, e, hv⟩) ⟨hh, hh'⟩
      · rw [hv] at hv'; cases w <;> cases hv'
      · rw [hv] at hv'; cases w <;> cases hv'
      · subst e; exact gdV_no hv ⟨hh, hh'⟩

theorem putT_len {T : List V} {d : Option Tmp} {v : V} : (putT T d v).length = T.length := by cases d <;> simp [putT]
theorem putT_ne {T : List V} {d : Option Tmp} {v : V} {s : Nat} (h : d ≠ some s) : (putT T d v).getD s .any = T.getD s .any := by
  cases d with
  | none => rfl
  | some d =>
    have : d ≠ s := fun e => h (by rw [e])
    simp [putT, List.getElem?_set_ne this]
theorem putT_eq {T : List V} {s : Nat} {v : V} (h : s < T.length) : (putT T (some s) v).getD s .any = v := by simp [putT, h]
theorem putT_any {T : List V} {s : Nat} : (putT T (some s) .any).getD s .any = .any := by
  by_cases h : s < T.length
  · exact putT_eq h
  · simp [putT, Nat.le_of_not_lt h]

theorem ckW_congr {cx : Cx} {op : Op} {dst : Option Tmp} {T T' : List V} {h : List Blk} (hc : ckW cx op dst T h) (ha : Agree T T' op.operands.toList) (hl : T'.length = T.length) (hd : ∀ d, dst = some d → T'.getD d .any = T.getD d .any) : ckW cx op dst T' h := by
  obtain ⟨h1, h2⟩ := hc
  refine ⟨by rw [← sx_congr ha]; exact h1, fun d e hlt => ?_⟩
  rw [hd d e, ← sx_congr ha]
  exact h2 d e (by rw [← hl]; exact hlt)
theorem ckW_pure {cx : Cx} {op : Op} {dst : Option Tmp} {T : List V} {h h' : List Blk} (hc : ckW cx op dst T h) (hq : quiet op = true) (hl : looks op = false) : ckW cx op dst T h' := by
  obtain ⟨e1, e2⟩ := sx_pure (cx := cx) (T := T) (h := h) (h' := h') hq hl
  exact ⟨by rw [← e2]; exact hc.1, fun d e hlt => by rw [← e1]; exact hc.2 d e hlt⟩

section
variable {cx : Cx} {ops : List Oper} {t : List (Nat × Nat)} {w0 : Base} {own : Nat → Prop} {df : List Deferred} {done : List Nat} {T : List V} {h : List Blk} {listed : Array Bool} {g : Gh} {a : Act} {w : World}

theorem topo_snoc {i : Nat} (ht : ∀ pre i post, done = pre ++ i :: post → ∀ d ∈ depsAt ops i, d ∈ pre) (hdd : ∀ d ∈ depsAt ops i, d ∈ done) :
    ∀ pre j post, done ++ [i] = pre ++ j :: post → ∀ d ∈ depsAt ops j, d ∈ pre := by
  intro pre j post e
  rcases List.eq_nil_or_concat post with rfl | ⟨post', x, rfl⟩
  · obtain ⟨e1, e2⟩ := List.append_inj' e rfl
    simp at e2; subst e1 e2; exact hdd
  · have e' : done ++ [i] = (pre ++ j :: post') ++ [x] := by simpa using e
    obtain ⟨e1, _⟩ := List.append_inj' e' rfl
    exact ht pre j post' e1

theorem Inv.unseen (I : Inv cx ops w0 own df done T h listed g a w) (st : Stat ops t) {i : Nat} (hni : i ∉ done) (hq : quietAt ops i = true) {k : Nat} {o : Oper} (ho : ops[k]? = some o) (hk : ∀ d ∈ depsAt ops k, d ∈ done) {s : Nat} (hs : s ∈ seesT ops o) : dstAt ops i ≠ some s := by
  intro e
  rcases st.sl k o ho s hs i e with h1 | ⟨h1, _⟩
  · exact hni (st.anc (fun x => x ∈ done) I.clD k hk i h1)
  · rw [hq] at h1; cases h1

/-- The walk goes ahead. -/
theorem Inv.adv (I : Inv cx ops w0 own df done T h listed g a w) (st : Stat ops t) {i : Nat} {o : Oper} (ho : ops[i]? = some o) (hni : i ∉ done) (hdd : ∀ d ∈ depsAt ops i, d ∈ done) (hq : quiet o.op = true) {v : V}
    (hgd : gdV T (gdAt ops o.guard) ((sx cx o.op T h).2.2 ∧ v = (sx cx o.op T h).1) (v = .any)) : Inv cx ops w0 own df (done ++ [i]) (putT T o.dst v) h listed g a w := by
  have hqa : quietAt ops i = true := by simp [quietAt, ho, hq]
  have hds : dstAt ops i = o.dst := by simp [dstAt, ho]
  have hli : listed.getD i false = false := by
    cases hl : listed.getD i false with
    | false => rfl
    | true => exact absurd (I.sub i hl) hni
  have keep : ∀ {k : Nat} {o' : Oper}, ops[k]? = some o' → (∀ d ∈ depsAt ops k, d ∈ done) → ∀ s ∈ seesT ops o', (putT T o.dst v).getD s .any = T.getD s .any :=
    fun ho' hk s hs => putT_ne (hds ▸ I.unseen st hni hqa ho' hk hs)
  refine { hG := I.hG, hH := I.hH, hd := I.hd, len := by rw [putT_len, I.len], topo := topo_snoc I.topo hdd, bnd := ?_, sz := I.sz, sub := fun j hj => List.mem_append_left _ (I.sub j hj), clL := I.clL, qui := ?_, tmp := ?_, pen := ?_ }
  · intro j hj
    rcases List.mem_append.1 hj with hj | hj
    · exact I.bnd j hj
    · simp at hj; subst hj; exact (List.getElem?_eq_some_iff.1 ho).1
  · intro j hj hl
    rcases List.mem_append.1 hj with hj | hj
    · exact I.qui j hj hl
    · simp at hj; subst hj; exact hqa
  · intro s x u hx hu hp
    have hne : o.dst ≠ some s := fun e => hp i (by simp) hli (hds ▸ e)
    have : (putT T o.dst v)[s]? = T[s]? := by
      cases hd : o.dst with
      | none => rfl
      | some d => rw [hd] at hne; exact List.getElem?_set_ne (fun e => hne (by rw [e]))
    rw [this] at hx
    exact I.tmp s x u hx hu fun j hj => hp j (List.mem_append_left _ hj)
  · intro j hj hl o' ho'
    rcases List.mem_append.1 hj with hj | hj
    · have hk := I.clD j hj
      refine gdV_map (I.pen j hj hl o' ho') (fun s b e => keep ho' hk s (seesT_gd e)) (fun hc => ?_) (fun hc d e => ?_)
      · refine ckW_congr hc (fun s hs => (keep ho' hk s (seesT_op hs)).symm) putT_len fun d e => putT_ne fun e' => ?_
        have : i = j := st.nd i j d (by rw [hds, e']) (by simp [dstAt, ho', e])
        subst this; exact hni hj
      · rw [putT_ne (fun e' => ?_)]
        · exact hc d e
        · have : i = j := st.nd i j d (by rw [hds, e']) (by simp [dstAt, ho', e])
          subst this; exact hni hj
    · simp at hj; subst hj
      rw [ho] at ho'; cases ho'
      have ha : Agree T (putT T o.dst v) o.op.operands.toList := fun s hs => (keep ho hdd s (seesT_op hs)).symm
      refine gdV_map hgd (fun s b e => keep ho hdd s (seesT_gd e)) (fun hc => ⟨by rw [← sx_congr ha]; exact hc.1, fun d e hlt => ?_⟩) (fun hc d e => ?_)
      · rw [← sx_congr ha, ← hc.2]
        rw [putT_len] at hlt
        rw [e]; exact putT_eq hlt
      · rw [hc, e]; exact putT_any

theorem getD_false_true {l : Array Bool} {i : Nat} (hi : i < l.size) : l.getD i true = l.getD i false := by simp [hi]
theorem set_self {i : Nat} (hi : i < listed.size) : (listed.setIfInBounds i true).getD i false = true := by simp [hi]
theorem set_false {i j : Nat} (hj : (listed.setIfInBounds i true).getD j false = false) (hi : i < listed.size) : j ≠ i ∧ listed.getD j false = false := by
  by_cases e : i = j
  · subst e; rw [set_self hi] at hj; cases hj
  · rw [getD_set_ne false e] at hj; exact ⟨fun e' => e e'.symm, hj⟩
theorem set_true {i j : Nat} (hj : (listed.setIfInBounds i true).getD j false = true) : j = i ∨ listed.getD j false = true := by
  by_cases e : i = j
  · exact .inl e.symm
  · rw [getD_set_ne false e] at hj; exact .inr hj

theorem put_other {a : Act} {dst : Option Tmp} {u : Value} {s : Nat} (h : dst ≠ some s) : (a.put dst u).tmps[s]? = a.tmps[s]? := by
  cases dst with
  | none => rfl
  | some d => exact Array.getElem?_setIfInBounds_ne (fun e => h (by rw [e]))
theorem put_size {a : Act} {dst : Option Tmp} {u : Value} : (a.put dst u).tmps.size = a.tmps.size := by cases dst <;> simp [Act.put]

/-- The machine comes after. -/
theorem Inv.late (I : Inv cx ops w0 own df done T h listed g a w) {i : Nat} {o : Oper} (ho : ops[i]? = some o) (hi : i ∈ done) (hdl : ∀ d ∈ depsAt ops i, listed.getD d false = true) {g' : Gh} (hle : g.le g') {u : Value} {w' : World}
    (hH : RelH g' h w0 own w') (hR : ∀ d, o.dst = some d → d < T.length → R g' (T.getD d .any) u) : Inv cx ops w0 own df done T h (listed.setIfInBounds i true) g' (a.put o.dst u) w' := by
  have hlt : i < listed.size := by rw [I.sz]; exact (List.getElem?_eq_some_iff.1 ho).1
  refine { hG := I.hG.mono hle, hH := hH, hd := by rw [← I.hd]; cases o.dst <;> rfl, len := by rw [put_size, I.len], topo := I.topo, bnd := I.bnd, sz := by simp [I.sz], sub := ?_, clL := ?_, qui := ?_, tmp := ?_, pen := ?_ }
  · intro j hj
    rcases set_true hj with rfl | hj
    · exact hi
    · exact I.sub j hj
  · intro j hj d hd
    rcases set_true hj with rfl | hj
    · exact getD_set_true (hdl d hd)
    · exact getD_set_true (I.clL j hj d hd)
  · intro j hj hl
    exact I.qui j hj (set_false hl hlt).2
  · intro s x u' hx hu hp
    by_cases e : o.dst = some s
    · have hs : s < T.length := (List.getElem?_eq_some_iff.1 hx).1
      have e1 : x = T.getD s .any := by simp [List.getElem?_eq_some_iff.1 hx |>.2.symm, hs]
      have e2 : u' = u := by
        rw [e] at hu
        simp only [Act.put, Array.getElem?_setIfInBounds_self] at hu
        split at hu
        · exact (Option.some.inj hu).symm
        · cases hu
      rw [e1, e2]; exact hR s e hs
    · rw [put_other e] at hu
      refine (I.tmp s x u' hx hu fun j hj hl e' => ?_).mono hle
      by_cases hji : i = j
      · subst hji; rw [dstAt, ho] at e'; exact e e'
      · exact hp j hj (by rw [getD_set_ne false hji]; exact hl) e'
  · intro j hj hl
    exact I.pen j hj (set_false hl hlt).2

theorem Inv.catch (I : Inv cx ops w0 own df done T h listed g a w) (st : Stat ops t) {i : Nat} {o : Oper} (ho : ops[i]? = some o) (hi : i ∈ done) (hl : listed.getD i false = false) (hdl : ∀ d ∈ depsAt ops i, listed.getD d false = true) {ar : Array Oper} (har : ar.toList = ops)
    {Q : Exit → Act → World → Prop} {K : Act → World → Prop} (hK : ∀ g' a' w', g.le g' → Inv cx ops w0 own df done T h (listed.setIfInBounds i true) g' a' w' → K a' w') : wpOp cx.P ar Q i K a w := by
  have hq : quiet o.op = true := by have := I.qui i hi hl; simpa [quietAt, ho] using this
  refine I.exec st ho hdl har (Kv := fun v h' => (∀ d, o.dst = some d → d < T.length → T.getD d .any = v) ∧ h' = h) (Kp := fun _ _ => False) (no := anyW T o.dst)
    (gdV_map (I.pen i hi hl o ho) (fun _ _ _ => rfl) (fun hc => ?_) id) (fun _ _ _ _ _ _ hf => hf.elim) ?_ ?_
  · have ha := I.agree st ho hdl
    have h1 : (sx cx o.op (maskT T (Pend ops done listed)) h).2.2 := by rw [← sx_congr ha]; exact hc.1
    refine (sx_ok (Kp := fun _ _ => False) h1).mono ?_ (fun _ _ h => h)
    rintro v h' ⟨rfl, rfl⟩
    refine ⟨fun d e hlt => by rw [← sx_congr ha]; exact hc.2 d e hlt, sx_quiet hq h1⟩
  · rintro g' v u h' w' hle ⟨hk, rfl⟩ hR hH'
    exact hK g' _ w' hle (I.late ho hi hdl hle hH' fun d e hlt => by rw [hk d e hlt]; exact hR)
  · intro hn
    exact hK g _ w (.refl g) (I.late ho hi hdl (.refl g) I.hH fun d e _ => by rw [hn d e]; exact R.any g undef)

/-- Both go on. -/
theorem Inv.both (I : Inv cx ops w0 own df done T h listed g a w) (st : Stat ops t) {i : Nat} {o : Oper} (ho : ops[i]? = some o) (hni : i ∉ done) (hdl : ∀ d ∈ depsAt ops i, listed.getD d false = true) {g' : Gh} (hle : g.le g') {u : Value} {v : V} {h' : List Blk} {w' : World}
    (hH : RelH g' h' w0 own w') (hR : R g' v u) (hck : h' = h ∨ ckL cx (cksAt ops t done i) (putT T o.dst v) h') : Inv cx ops w0 own df (done ++ [i]) (putT T o.dst v) h' (listed.setIfInBounds i true) g' (a.put o.dst u) w' := by
  have hlt : i < listed.size := by rw [I.sz]; exact (List.getElem?_eq_some_iff.1 ho).1
  have hds : dstAt ops i = o.dst := by simp [dstAt, ho]
  have hli : listed.getD i false = false := by
    cases hl : listed.getD i false with
    | false => rfl
    | true => exact absurd (I.sub i hl) hni
  have hdd : ∀ d ∈ depsAt ops i, d ∈ done := fun d hd => I.sub d (hdl d hd)
  refine { hG := I.hG.mono hle, hH := hH, hd := by rw [← I.hd]; cases o.dst <;> rfl, len := by rw [put_size, putT_len, I.len], topo := topo_snoc I.topo hdd, bnd := ?_, sz := by simp [I.sz], sub := ?_, clL := ?_, qui := ?_, tmp := ?_, pen := ?_ }
  · intro j hj
    rcases List.mem_append.1 hj with hj | hj
    · exact I.bnd j hj
    · simp at hj; subst hj; exact (List.getElem?_eq_some_iff.1 ho).1
  · intro j hj
    rcases set_true hj with rfl | hj
    · simp
    · exact List.mem_append_left _ (I.sub j hj)
  · intro j hj d hd
    rcases set_true hj with rfl | hj
    · exact getD_set_true (hdl d hd)
    · exact getD_set_true (I.clL j hj d hd)
  · intro j hj hl
    obtain ⟨hne, hl'⟩ := set_false hl hlt
    rcases List.mem_append.1 hj with hj | hj
    · exact I.qui j hj hl'
    · simp at hj; exact absurd hj hne
  · intro s x u' hx hu hp
    by_cases e : o.dst = some s
    · rw [e] at hx hu
      simp only [putT, List.getElem?_set, Act.put, Array.getElem?_setIfInBounds] at hx hu
      simp only [if_true] at hx hu
      split at hx
      · split at hu
        · cases hx; cases hu; exact hR
        · cases hu
      · cases hx
    · rw [put_other e] at hu
      have : (putT T o.dst v)[s]? = T[s]? := by
        cases hd : o.dst with
        | none => rfl
        | some d => rw [hd] at e; exact List.getElem?_set_ne (fun e' => e (by rw [e']))
      rw [this] at hx
      refine (I.tmp s x u' hx hu fun j hj hl e' => ?_).mono hle
      have hji : i ≠ j := fun e => hni (e ▸ hj)
      exact hp j (List.mem_append_left _ hj) (by rw [getD_set_ne false hji]; exact hl) e'
  · intro j hj hl o' ho'
    obtain ⟨hne, hl'⟩ := set_false hl hlt
    have hj : j ∈ done := by
      rcases List.mem_append.1 hj with hj | hj
      · exact hj
      · simp at hj; exact absurd hj hne
    have hq : quiet o'.op = true := by have := I.qui j hj hl'; simpa [quietAt, ho'] using this
    have nb : (ancOf t i).testBit j = false := by
      cases hb : (ancOf t i).testBit j with
      | false => rfl
      | true =>
        have := st.anc (fun k => listed.getD k false = true) I.clL i hdl j hb
        rw [hl'] at this; cases this
    have keep : ∀ s ∈ seesT ops o', (putT T o.dst v).getD s .any = T.getD s .any := by
      intro s hs
      refine putT_ne fun e => ?_
      rcases st.sl j o' ho' s hs i (by rw [hds, e]) with h1 | ⟨_, h1⟩
      · exact hni (st.anc (fun x => x ∈ done) I.clD j (I.clD j hj) i h1)
      · rw [nb] at h1; cases h1
    have keepD : ∀ d, o'.dst = some d → (putT T o.dst v).getD d .any = T.getD d .any := by
      intro d e
      refine putT_ne fun e' => ?_
      have : i = j := st.nd i j d (by rw [hds, e']) (by simp [dstAt, ho', e])
      subst this; exact hni hj
    have ha : Agree T (putT T o.dst v) o'.op.operands.toList := fun s hs => (keep s (seesT_op hs)).symm
    have P := I.pen j hj hl' o' ho'
    have P' : gdV (putT T o.dst v) (gdAt ops o'.guard) (ckW cx o'.op o'.dst (putT T o.dst v) h) (anyW (putT T o.dst v) o'.dst) :=
      gdV_map P (fun s b e => keep s (seesT_gd e)) (fun hc => ckW_congr hc ha putT_len keepD) (fun hc d e => by rw [keepD d e]; exact hc d e)
    rcases hck with rfl | hck
    · exact P'
    · cases hlk : looks o'.op with
      | false => exact gdV_map P' (fun _ _ _ => rfl) (fun hc => ckW_pure hc hq hlk) id
      | true =>
        have hm : (⟨o'.dst, o'.op, gdAt ops o'.guard⟩ : CK) ∈ cksAt ops t done i := by
          unfold cksAt
          refine List.mem_flatMap.2 ⟨j, List.mem_filter.2 ⟨hj, ?_⟩, ?_⟩
          · simp [looksAt', ho', hlk, nb]
          · simp [ckAt, ho']
        have hcj : gdV (putT T o.dst v) (gdAt ops o'.guard) (ckV cx o'.op o'.dst (putT T o.dst v) h') True := ckL_mem hck _ hm
        refine gdV_map (gdV_and P' hcj) (fun _ _ _ => rfl) (fun hc => ⟨hc.2.1, fun d e hlt => ?_⟩) (fun hc => hc.1)
        have := hc.2.2
        rw [e] at this
        exact this

theorem Inv.main (I : Inv cx ops w0 own df done T h listed g a w) (st : Stat ops t) {i : Nat} {o : Oper} (ho : ops[i]? = some o) (hni : i ∉ done) (hdl : ∀ d ∈ depsAt ops i, listed.getD d false = true) {ar : Array Oper} (har : ar.toList = ops)
    {Q : Exit → Act → World → Prop} {K : Act → World → Prop} {N : KV} {Kp : KV}
    (hgd : gdV T (gdAt ops o.guard) (opA cx o.op T h (fun v h' => ckL cx (cksAt ops t done i) (putT T o.dst v) h' ∧ N v h') Kp) (ckL cx (cksAt ops t done i) (putT T o.dst .any) h ∧ N .any h)) (hp : Pan g w0 own a Kp Q)
    (hK : ∀ g' v h' a' w', g.le g' → N v h' → Inv cx ops w0 own df (done ++ [i]) (putT T o.dst v) h' (listed.setIfInBounds i true) g' a' w' → K a' w') : wpOp cx.P ar Q i K a w := by
  refine I.exec st ho hdl har (Kv := fun v h' => ckL cx (cksAt ops t done i) (putT T o.dst v) h' ∧ N v h') (Kp := Kp) (gdV_map hgd (fun _ _ _ => rfl) (fun hc => opA_ok (I.agree st ho hdl) hc) id) hp ?_ ?_
  · rintro g' v u h' w' hle ⟨hck, hn⟩ hR hH'
    exact hK g' v h' _ w' hle hn (I.both st ho hni hdl hle hH' hR (.inr hck))
  · rintro ⟨hck, hn⟩
    exact hK g .any h _ w (.refl g) hn (I.both st ho hni hdl (.refl g) I.hH (R.any g undef) (.inl rfl))
end
end Go.Proofs.Ytlfnhbbgpifidaa.Sx
