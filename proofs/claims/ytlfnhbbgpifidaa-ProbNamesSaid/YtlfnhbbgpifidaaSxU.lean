/- Regions whose operations may come in many orders: that the walk of the tree of orders suffices. -/
import Derived.Test.YtlfnhbbgpifidaaSxT
namespace Go.Proofs.Ytlfnhbbgpifidaa.Sx
set_option linter.unusedVariables false
set_option linter.unusedSimpArgs false
open Go.RowKit

def unl (n : Nat) (listed : Array Bool) : Nat := (List.range n).countP fun i => !listed.getD i false

theorem countP_lt {p q : Nat → Bool} : ∀ {l : List Nat}, (∀ x ∈ l, p x = true → q x = true) → (∃ x ∈ l, q x = true ∧ p x = false) → l.countP p < l.countP q
  | [], _, ⟨_, hx, _⟩ => by cases hx
  | y :: l, h, ⟨x, hx, h1, h2⟩ => by
    have hle : l.countP p ≤ l.countP q := List.countP_mono_left fun z hz => h z (List.mem_cons_of_mem _ hz)
    rw [List.countP_cons, List.countP_cons]
    rcases List.mem_cons.1 hx with rfl | hx
    · simp [h1, h2]; omega
    · have := countP_lt (l := l) (fun z hz => h z (List.mem_cons_of_mem _ hz)) ⟨x, hx, h1, h2⟩
      have hy := h y (by simp)
      cases hp : p y
      · simp; omega
      · simp [hy hp]; omega

theorem unl_set {n i : Nat} {listed : Array Bool} (hi : i < n) (hs : listed.size = n) (hl : listed.getD i false = false) : unl n (listed.setIfInBounds i true) < unl n listed := by
  refine countP_lt (fun x _ hx => ?_) ⟨i, by simpa using hi, by simp [hl], ?_⟩
  · simp only [Bool.not_eq_true'] at hx ⊢
    exact (set_false hx (hs ▸ hi)).2
  · rw [set_self (hs ▸ hi)]; rfl
theorem unl_zero {n : Nat} {listed : Array Bool} (h : unl n listed = 0) : ∀ i, i < n → listed.getD i false = true := by
  intro i hi
  have := List.countP_eq_zero.1 h i (by simpa using hi)
  simpa using this

section
variable {cx : Cx} {ops : List Oper} {t : List (Nat × Nat)} {w0 : Base} {own : Nat → Prop} {df : List Deferred} {done : List Nat} {T : List V} {h : List Blk} {listed : Array Bool} {g : Gh} {a : Act} {w : World} {ar : Array Oper}

theorem ready_of {i : Nat} (har : ar.toList = ops) (hs : listed.size = ops.length) : i ∈ Region.ready .any ar listed ↔ ∃ o, ops[i]? = some o ∧ listed.getD i false = false ∧ ∀ d ∈ depsAt ops i, listed.getD d false = true := by
  rw [mem_ready]
  have e : ∀ o, ar[i]? = some o ↔ ops[i]? = some o := fun o => by rw [← har, Array.getElem?_toList]
  constructor
  · rintro ⟨h0, o, ho, hall⟩
    have ho' := (e o).1 ho
    refine ⟨o, ho', ?_, fun d hd => ?_⟩
    · rw [← getD_false_true (by rw [hs]; exact (List.getElem?_eq_some_iff.1 ho').1)]; exact h0
    · simp only [depsAt, ho', depsOf, List.mem_map, List.mem_filter, Array.mem_toList_iff] at hd
      obtain ⟨x, ⟨hx, hb⟩, rfl⟩ := hd
      exact hall x hx hb
  · rintro ⟨o, ho, h0, hall⟩
    refine ⟨?_, o, (e o).2 ho, fun x hx hb => hall x.on ?_⟩
    · rw [getD_false_true (by rw [hs]; exact (List.getElem?_eq_some_iff.1 ho).1)]; exact h0
    · simp only [depsAt, ho, depsOf, List.mem_map, List.mem_filter, Array.mem_toList_iff]
      exact ⟨x, ⟨hx, hb⟩, rfl⟩

/-- Something is ready, or the machine has come to where the walk is. -/
theorem Inv.prog (I : Inv cx ops w0 own df done T h listed g a w) (har : ar.toList = ops) : (∃ i, i ∈ Region.ready .any ar listed) ∨ ∀ i ∈ done, listed.getD i false = true := by
  have gen : ∀ post pre, done = pre ++ post → (∀ k ∈ pre, listed.getD k false = true) → (∃ i, i ∈ Region.ready .any ar listed) ∨ ∀ i ∈ post, listed.getD i false = true := by
    intro post
    induction post with
    | nil => intro pre _ _; exact .inr (by simp)
    | cons i post ih =>
      intro pre e hpre
      cases hl : listed.getD i false with
      | false =>
        have hi : i < ops.length := I.bnd i (by rw [e]; simp)
        exact .inl ⟨i, (ready_of har I.sz).2 ⟨ops[i], List.getElem?_eq_getElem hi, hl, fun d hd => hpre d (I.topo pre i post e d hd)⟩⟩
      | true =>
        rcases ih (pre ++ [i]) (by simp [e]) (fun k hk => by
          rcases List.mem_append.1 hk with hk | hk
          · exact hpre k hk
          · simp at hk; subst hk; exact hl) with h | h
        · exact .inl h
        · refine .inr fun k hk => ?_
          rcases List.mem_cons.1 hk with rfl | hk
          · exact hl
          · exact h k hk
  exact gen done [] rfl (by simp)

theorem mem_readyL {i : Nat} : i ∈ readyL ops done ↔ (∃ o, ops[i]? = some o) ∧ i ∉ done ∧ ∀ d ∈ depsAt ops i, d ∈ done := by
  unfold readyL
  simp only [List.mem_filter, List.mem_range, Bool.and_eq_true, Bool.not_eq_true', List.all_eq_true, List.contains_eq_mem, decide_eq_false_iff_not, decide_eq_true_eq]
  constructor
  · rintro ⟨h1, h2, h3⟩; exact ⟨⟨_, List.getElem?_eq_getElem h1⟩, h2, h3⟩
  · rintro ⟨⟨o, h1⟩, h2, h3⟩; exact ⟨(List.getElem?_eq_some_iff.1 h1).1, h2, h3⟩

theorem brs_mem {K : KT} {Kp : KV} {f : Nat → PT} : ∀ {l : List Nat}, runT cx K Kp (brs ops t done f l) T h → ∀ j ∈ l, ∀ o, ops[j]? = some o →
    gdV T (gdAt ops o.guard) (opA cx o.op T h (fun v h' => ckL cx (cksAt ops t done j) (putT T o.dst v) h' ∧ runT cx K Kp (f j) (putT T o.dst v) h') Kp) (ckL cx (cksAt ops t done j) (putT T o.dst .any) h ∧ runT cx K Kp (f j) (putT T o.dst .any) h)
  | [], _, j, hj, _, _ => by cases hj
  | i :: l, hr, j, hj, o, ho => by
    unfold brs at hr
    split at hr
    · rename_i o' ho'
      rcases List.mem_cons.1 hj with rfl | hj
      · rw [ho] at ho'; cases ho'; exact hr.1
      · exact brs_mem hr.2 j hj o ho
    · exact hr.elim

theorem any_sim (st : Stat ops t) (har : ar.toList = ops) {K : KT} {Kp : KV} {Q : Exit → Act → World → Prop} {g0 : Gh} {n0 : Nat}
    (hQ : ∀ g T h a w, Gh.leN n0 g0 g → K T h → GOk cx g → RelT g T a.tmps → RelH g h w0 own w → a.defers = df → Q .normal a w)
    (hP : ∀ g h v u T a w, Gh.leN n0 g0 g → Kp v h → R g v u → GOk cx g → RelT g T a.tmps → RelH g h w0 own w → a.defers = df → Q (.panic [{ v := u, recovered := false }]) a w) :
    ∀ (n : Nat) (done : List Nat) (fuel : Nat) (listed : Array Bool) (a : Act) (w : World) (g : Gh) (T : List V) (h : List Blk), Inv cx ops w0 own df done T h listed g a w → unl ops.length listed ≤ fuel → Gh.leN n0 g0 g →
      runT cx K Kp (mkT ops t n done) T h → wpAny cx.P .any ar Q fuel listed a w := by
  intro n
  induction n with
  | zero =>
    intro done fuel
    induction fuel with
    | zero =>
      intro listed a w g T h I hu hle hr
      have hall := unl_zero (Nat.le_zero.1 hu)
      refine ⟨?_, ?_⟩
      · apply List.eq_nil_iff_forall_not_mem.2
        intro i hi
        obtain ⟨o, ho, hl, _⟩ := (ready_of har I.sz).1 hi
        rw [hall i (List.getElem?_eq_some_iff.1 ho).1] at hl; cases hl
      · simp only [mkT] at hr
        split at hr
        · refine hQ g T h a w hle hr I.hG ⟨I.len, fun s x u hx hu => I.tmp s x u hx hu fun i hi hl => ?_⟩ I.hH I.hd
          rw [hall i (I.bnd i hi)] at hl; cases hl
        · exact hr.elim
    | succ fuel ih =>
      intro listed a w g T h I hu hle hr
      have hr' := hr
      simp only [mkT] at hr
      split at hr
      · rename_i hfull
        have hin : ∀ i, i < ops.length → i ∈ done := by
          intro i hi
          have := List.all_eq_true.1 hfull i (by simpa using hi)
          simpa using this
        refine ⟨fun hnil => ?_, fun i hi => ?_⟩
        · rcases I.prog har with ⟨i, hi⟩ | hall
          · rw [hnil] at hi; cases hi
          · refine hQ g T h a w hle hr I.hG ⟨I.len, fun s x u hx hu => I.tmp s x u hx hu fun i hi hl => ?_⟩ I.hH I.hd
            rw [hall i hi] at hl; cases hl
        · obtain ⟨o, ho, hl, hdl⟩ := (ready_of har I.sz).1 hi
          have hlt := (List.getElem?_eq_some_iff.1 ho).1
          refine I.catch st ho (hin i hlt) hl hdl har fun g' a' w' hle' I' => ?_
          exact ih _ _ _ _ _ _ I' (by have := unl_set hlt I.sz hl; omega) (hle.trans (hle'.toN _)) hr'
      · exact hr.elim
  | succ n IH =>
    intro done fuel listed a w g T h I hu hle hr
    simp only [mkT] at hr
    split at hr
    · rename_i i hfind
      have hi := List.mem_of_find?_eq_some hfind
      have hqa := List.find?_some hfind
      obtain ⟨⟨o, ho⟩, hni, hdd⟩ := mem_readyL.1 hi
      have hq : quiet o.op = true := by simpa [quietAt, ho] using hqa
      simp only [qt, ho, runT] at hr
      rcases gdV_cases hr with ⟨e, hc, hr⟩ | ⟨s, b, e, ⟨hv, hc, hr⟩ | ⟨hv, hr⟩⟩
      · exact IH _ _ _ _ _ _ _ _ (I.adv st ho hni hdd hq (gdV_yes (.inl e) ⟨hc, rfl⟩)) hu hle hr
      · exact IH _ _ _ _ _ _ _ _ (I.adv st ho hni hdd hq (gdV_yes (.inr ⟨s, b, e, hv⟩) ⟨hc, rfl⟩)) hu hle hr
      · exact IH _ _ _ _ _ _ _ _ (I.adv st ho hni hdd hq (v := .any) (by rw [e]; exact gdV_no hv rfl)) hu hle hr
    · split at hr
      · exact hr.elim
      · rename_i hnone l hne hl0
        have hbr := brs_mem hr
        clear hr
        have hsome : ∃ j, j ∈ readyL ops done := by
          cases hrl : readyL ops done with
          | nil => exact absurd hrl hl0
          | cons j _ => exact ⟨j, by simp⟩
        have noAll : ∀ {listed : Array Bool} {a w g}, Inv cx ops w0 own df done T h listed g a w → ¬ (∀ i, i < ops.length → listed.getD i false = true) := by
          intro listed a w g I hall
          obtain ⟨j, hj⟩ := hsome
          obtain ⟨⟨o, ho⟩, hni, _⟩ := mem_readyL.1 hj
          exact hni (I.sub j (hall j (List.getElem?_eq_some_iff.1 ho).1))
        induction fuel generalizing listed a w g with
        | zero => exact absurd (unl_zero (Nat.le_zero.1 hu)) (noAll I)
        | succ fuel ih =>
          refine ⟨fun hnil => ?_, fun i hi => ?_⟩
          · exfalso
            rcases I.prog har with ⟨i, hi⟩ | hall
            · rw [hnil] at hi; cases hi
            · obtain ⟨j, hj⟩ := hsome
              obtain ⟨⟨o, ho⟩, hni, hdd⟩ := mem_readyL.1 hj
              have : j ∈ Region.ready .any ar listed := (ready_of har I.sz).2 ⟨o, ho, by
                cases hl : listed.getD j false with
                | false => rfl
                | true => exact absurd (I.sub j hl) hni, fun d hd => hall d (hdd d hd)⟩
              rw [hnil] at this; cases this
          · obtain ⟨o, ho, hl, hdl⟩ := (ready_of har I.sz).1 hi
            have hlt := (List.getElem?_eq_some_iff.1 ho).1
            have hlow : unl ops.length (listed.setIfInBounds i true) ≤ fuel := by have := unl_set hlt I.sz hl; omega
            by_cases hd : i ∈ done
            · exact I.catch st ho hd hl hdl har fun g' a' w' hle' I' => ih _ _ _ _ I' hlow (hle.trans (hle'.toN _))
            · have hmem : i ∈ readyL ops done := mem_readyL.2 ⟨⟨o, ho⟩, hd, fun d hd => I.sub d (hdl d hd)⟩
              refine I.main st ho hd hdl har (hbr i hmem o ho) ?_ ?_
              · intro g' v u h' w' hle' hk hR hH'
                exact hP g' h' v u (maskT T (Pend ops done listed)) a w' (hle.trans (hle'.toN _)) hk hR (I.hG.mono hle') (I.mask.mono hle') hH' I.hd
              · intro g' v h' a' w' hle' hn I'
                exact IH _ _ _ _ _ _ _ _ I' hlow (hle.trans (hle'.toN _)) hn
end

/-- A region of many orders. -/
theorem aw_any {cx : Cx} {id : Nat} {ar : Array Oper} {pt : PT} (hm : cx.P.follows .mixedOrders = true) (hp : plan ar.toList = some pt) {Q : Po} {T : List V} {h : List Blk}
    (hr : runT cx Q.nx (fun v h => ∀ T, Q.pn T v h) pt T h) : AW cx (.region id ar true) Q T h := by
  unfold plan planT at hp
  split at hp
  · rename_i hs
    obtain ⟨st, _⟩ := stat_of (ancB_ok ar.toList _ [] (anc_nil _)) hs
    simp only [Option.some.injEq] at hp
    subst hp
    intro g w0 own df a w hh
    obtain ⟨_, hG, hT, hH, hd⟩ := hh
    refine wp_region_any hm ?_
    have I : Inv cx ar.toList w0 own df [] T h (Array.replicate ar.size false) g a { w with drawn := w.drawn + 1 } :=
      { hG := hG, hH := { frz := hH.frz, ent := hH.ent, lt := hH.lt, inj := hH.inj, size := hH.size, block := hH.block, os := hH.os, tape := hH.tape, output := hH.output, mine := hH.mine, new := hH.new }, hd := hd, len := hT.1,
        topo := fun pre i post e => by simp at e, bnd := by simp, sz := by simp, sub := fun i hi => by simp [Array.getElem?_replicate] at hi; split at hi <;> simp at hi,
        clL := fun i hi => by simp [Array.getElem?_replicate] at hi; split at hi <;> simp at hi, qui := by simp, tmp := fun s x u hx hu _ => hT.2 s x u hx hu, pen := by simp }
    refine any_sim (Kp := fun v h => ∀ T, Q.pn T v h) (g0 := g) (n0 := Q.n) st rfl ?_ ?_ ar.size [] ar.size _ a _ g T h I ?_ (.refl _ _) (by simpa using hr)
    · intro g' T' h' a' w' hle hk hG' hT' hH' hd'
      exact ⟨g', T', h', hle, hk, rfl, hG', hT', hH', hd'⟩
    · intro g' h' v u T' a' w' hle hk hR hG' hT' hH' hd'
      exact ⟨g', T', h', v, u, hle, hk T', hR, rfl, rfl, hG', hT', hH', hd'⟩
    · refine Nat.le_trans List.countP_le_length ?_
      simp
  · cases hp
end Go.Proofs.Ytlfnhbbgpifidaa.Sx
