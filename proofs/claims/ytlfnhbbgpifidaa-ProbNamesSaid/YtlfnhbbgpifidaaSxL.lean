/- Regions and code on abstract states, as a stack; that what the walk asks for suffices. -/
import Derived.Test.YtlfnhbbgpifidaaSxJ
namespace Go.Proofs.Ytlfnhbbgpifidaa.Sx
set_option linter.unusedVariables false
set_option linter.unusedSimpArgs false
open Go.RowKit

theorem StepOk.mono {cx : Cx} {o : Oper} {T : List V} {h : List Blk} {K K' Kp Kp' : KV} (hs : StepOk cx o T h K Kp) (hK : ∀ v h, K v h → K' v h) (hP : ∀ v h, Kp v h → Kp' v h) : StepOk cx o T h K' Kp' := by
  intro g w0 own a w Q hG hT hH hPan
  refine Oper.wp_mono ?_ (hs g w0 own a w Q hG hT hH fun g' v u h' w' hle hk hR hH' => hPan g' v u h' w' hle (hP _ _ hk) hR hH')
  rintro a' w' ⟨g', v, u, h', hle, hk, e, hR, hH'⟩
  exact ⟨g', v, u, h', hle, hK _ _ hk, e, hR, hH'⟩
theorem ACalls.mono {cx : Cx} {f : FuncId} {args : List V} {h : List Blk} {K K' Kp Kp' : KV} (hc : ACalls cx f args h K Kp) (hK : ∀ v h, K v h → K' v h) (hP : ∀ v h, Kp v h → Kp' v h) : ACalls cx f args h K' Kp' := by
  refine ⟨hc.1, fun g w vs hG hl hr hH => (hc.2 g w vs hG hl hr hH).mono ?_⟩
  rintro e w' ⟨g', v, u, h', h1, h2, h3, h4⟩
  exact ⟨g', v, u, h', h1, h2, h3, h4.imp (fun h => ⟨h.1, hK _ _ h.2⟩) (fun h => ⟨h.1, hP _ _ h.2⟩)⟩

/-! Regions. -/
def putT (T : List V) : Option Tmp → V → List V
  | some d, v => T.set d v
  | none, _ => T

/-- The slot that holds a guard. -/
def gslot (all : List Oper) (j : Nat) : Option Tmp := (all[j]?).bind (·.dst)

abbrev KT := List V → List Blk → Prop

/-- A region, its operations in their order. -/
def run (cx : Cx) (all : List Oper) : List Oper → List V → List Blk → KT → (List V → KV) → Prop
  | [], T, h, K, _ => K T h
  | o :: r, T, h, K, Kp =>
    match o.guard with
    | none => StepOk cx o T h (fun v h' => run cx all r (putT T o.dst v) h' K Kp) (Kp T)
    | some (j, want) =>
      match gslot all j with
      | none => False
      | some s =>
        match T.getD s .any with
        | .bool b => (b = want → StepOk cx o (T.set s (.bool want)) h (fun v h' => run cx all r (putT (T.set s (.bool want)) o.dst v) h' K Kp) (Kp (T.set s (.bool want)))) ∧
            (b = !want → run cx all r (putT (T.set s (.bool !want)) o.dst .any) h K Kp)
        | _ => False

theorem RelT.put {g : Gh} {T : List V} {a : Act} (h : RelT g T a.tmps) (d : Option Tmp) {x : V} {v : Value} (hx : R g x v) : RelT g (putT T d x) (a.put d v).tmps := by
  cases d with
  | none => exact h
  | some d => exact h.set d hx

/-- The state of a walk: temporaries and memory, in the frame that the call began with. -/
def Here (cx : Cx) (g : Gh) (w0 : Base) (own : Nat → Prop) (df : List Deferred) (T : List V) (h : List Blk) (a : Act) (w : World) : Prop :=
  g = g ∧ GOk cx g ∧ RelT g T a.tmps ∧ RelH g h w0 own w ∧ a.defers = df

/-- What follows, told of the model's state. -/
def Then (cx : Cx) (n : Nat) (g0 : Gh) (w0 : Base) (own : Nat → Prop) (df : List Deferred) (K : KT) : Act → World → Prop := fun a w =>
  ∃ g T h, Gh.leN n g0 g ∧ K T h ∧ Here cx g w0 own df T h a w
def ThenP (cx : Cx) (n : Nat) (g0 : Gh) (w0 : Base) (own : Nat → Prop) (df : List Deferred) (Kp : List V → KV) (chain : List PanicEntry) : Act → World → Prop := fun a w =>
  ∃ g T h v u, Gh.leN n g0 g ∧ Kp T v h ∧ R g v u ∧ chain = [{ v := u, recovered := false }] ∧ Here cx g w0 own df T h a w

theorem putT_self {T : List V} {s : Nat} {b : Bool} (h : T.getD s .any = .bool b) : T.set s (.bool b) = T := by
  apply List.ext_getElem?
  intro i
  rw [List.getElem?_set]
  split
  · rename_i e; subst e
    have hlt : s < T.length := by
      rcases Nat.lt_or_ge s T.length with h' | h'
      · exact h'
      · rw [List.getD_eq_getElem?_getD, List.getElem?_eq_none h'] at h; cases h
    rw [if_pos hlt]
    rw [List.getD_eq_getElem?_getD, List.getElem?_eq_getElem hlt] at h
    simp at h
    rw [List.getElem?_eq_getElem hlt, h]
  · rfl

theorem yielded_of {ops : Array Oper} {tmps : Array Value} {j s : Nat} {b : Bool} (hs : gslot ops.toList j = some s) (hv : tmps.getD s undef = .bool b) : yielded ops tmps j = some b := by
  unfold gslot at hs
  obtain ⟨o, ho, hd⟩ := Option.bind_eq_some_iff.1 hs
  simp only [Array.getElem?_toList] at ho
  have hlt : s < tmps.size := by
    rcases Nat.lt_or_ge s tmps.size with h' | h'
    · exact h'
    · simp only [Array.getD_eq_getD_getElem?, Array.getElem?_eq_none h', Option.getD_none] at hv; cases hv
  simp only [Array.getD_eq_getD_getElem?, Array.getElem?_eq_getElem hlt, Option.getD_some] at hv
  simp only [yielded, ho, Option.bind_some, hd, Array.getElem?_eq_getElem hlt, hv]

theorem run_ok {cx : Cx} {ops : Array Oper} {w0 : Base} {own : Nat → Prop} {df : List Deferred} {K : KT} {Kp : List V → KV} {Q : Exit → Act → World → Prop} {g0 : Gh} {n0 : Nat}
    (hK : ∀ a w, Then cx n0 g0 w0 own df K a w → Q .normal a w) (hP : ∀ ch a w, ThenP cx n0 g0 w0 own df Kp ch a w → Q (.panic ch) a w) :
    ∀ (n : Nat) (l : List Oper), l = ops.toList.drop n → ∀ (T : List V) (h : List Blk) g a w, Gh.leN n0 g0 g → run cx ops.toList l T h K Kp → Here cx g w0 own df T h a w → wpOps cx.P ops Q ((List.range ops.size).drop n) a w := by
  intro n l
  induction l generalizing n with
  | nil =>
    intro hl T h g a w hle hr hh
    have hn : ops.size ≤ n := by
      rcases Nat.lt_or_ge n ops.size with hlt | hge
      · have : (ops.toList.drop n).length ≠ 0 := by simp; omega
        rw [← hl] at this; simp at this
      · exact hge
    rw [List.drop_eq_nil_of_le (by simpa using hn)]
    exact hK a w ⟨g, T, h, hle, hr, hh⟩
  | cons o r ih =>
    intro hl T h g a w hle hr hh
    have hn : n < ops.size := by
      rcases Nat.lt_or_ge n ops.size with hlt | hge
      · exact hlt
      · rw [List.drop_eq_nil_of_le (by simpa using hge)] at hl; cases hl
    have ho : ops[n]? = some o := by
      have : (ops.toList.drop n)[0]? = some o := by rw [← hl]; rfl
      simpa using this
    have hr' : r = ops.toList.drop (n + 1) := by
      have : (ops.toList.drop n).tail = r := by rw [← hl]; rfl
      rw [← this]; simp
    have hrange : (List.range ops.size).drop n = n :: (List.range ops.size).drop (n + 1) := by
      rw [List.drop_eq_getElem_cons (by simpa using hn)]; simp
    rw [hrange, wpOps_cons]
    obtain ⟨_, hG, hT, hH, hd⟩ := hh
    -- the operation is carried out
    have go : ∀ T', RelT g T' a.tmps → StepOk cx o T' h (fun v h' => run cx ops.toList r (putT T' o.dst v) h' K Kp) (Kp T') → Region.wanted o (yielded ops a.tmps) = true →
        wpOp cx.P ops Q n (wpOps cx.P ops Q ((List.range ops.size).drop (n + 1))) a w := by
      intro T' hT' hop hw
      unfold wpOp
      rw [ho]
      simp only [hw, if_true]
      refine .inl (Oper.wp_mono (K := Nxt g w0 own a o.dst _) ?_ (hop g w0 own a w Q hG hT' hH ?_))
      · rintro a' w' ⟨g', v, u, h', hle', hk, rfl, hR, hH'⟩
        exact ih (n + 1) hr' _ _ g' _ _ (hle.trans (hle'.toN _)) hk ⟨rfl, hG.mono hle', (hT'.mono hle').put o.dst hR, hH', by cases o.dst <;> exact hd⟩
      · intro g' v u h' w' hle' hk hR hH'
        exact hP _ _ _ ⟨g', T', h', v, u, hle.trans (hle'.toN _), hk, hR, rfl, rfl, hG.mono hle', hT'.mono hle', hH', hd⟩
    simp only [run] at hr
    split at hr
    · rename_i hg
      exact go T hT hr (by simp [Region.wanted, hg])
    · rename_i j want hg
      split at hr
      · exact hr.elim
      · rename_i s hs
        split at hr
        · rename_i b hb
          have hv : a.tmps.getD s undef = .bool b := (hb ▸ hT.get s).bool_inv
          have hy := yielded_of hs hv
          by_cases e : b = want
          · subst e
            have := hr.1 rfl
            rw [putT_self hb] at this
            exact go T hT this (by simp [Region.wanted, hg, hy])
          · have e' : b = !want := by cases b <;> cases want <;> simp_all
            subst e'
            have := hr.2 rfl
            rw [putT_self hb] at this
            unfold wpOp
            rw [ho]
            have hw : Region.wanted o (yielded ops a.tmps) = false := by
              simp only [Region.wanted, hg, hy]; cases want <;> rfl
            simp only [hw, Bool.false_eq_true, if_false]
            exact ih (n + 1) hr' _ _ g _ _ hle this ⟨rfl, hG, hT.put o.dst (R.any g _), hH, by cases o.dst <;> exact hd⟩
        · exact hr.elim

/-! Code. -/
/-- What follows a piece of code: at its end, at an exit, at a return, at a panic. -/
structure Po where
  n : Nat
  nx : KT
  ex : Nat → KT
  rt : KT
  pn : List V → KV

/-- That a piece of code does what follows. -/
def AW (cx : Cx) (c : Code) (Q : Po) (T : List V) (h : List Blk) : Prop :=
  ∀ g w0 own df a w, Here cx g w0 own df T h a w → c.wp cx.P (fun e a w => match e with
    | .normal => Then cx Q.n g w0 own df Q.nx a w
    | .exit i => Then cx Q.n g w0 own df (Q.ex i) a w
    | .ret => Then cx Q.n g w0 own df Q.rt a w
    | .panic ch => ThenP cx Q.n g w0 own df Q.pn ch a w
    | _ => False) a w

theorem Then.mono {cx n g0 g w0 own df} {K K' : KT} (hg : Gh.leN n g0 g) (hK : ∀ T h, K T h → K' T h) {a w} : Then cx n g w0 own df K a w → Then cx n g0 w0 own df K' a w := by
  rintro ⟨g', T, h, hle, hk, hh⟩
  exact ⟨g', T, h, hg.trans hle, hK _ _ hk, hh⟩
theorem ThenP.mono {cx n g0 g w0 own df} {K K' : List V → KV} (hg : Gh.leN n g0 g) (hK : ∀ T v h, K T v h → K' T v h) {ch a w} : ThenP cx n g w0 own df K ch a w → ThenP cx n g0 w0 own df K' ch a w := by
  rintro ⟨g', T, h, v, u, hle, hk, hh⟩
  exact ⟨g', T, h, v, u, hg.trans hle, hK _ _ _ hk, hh⟩
theorem aw_mono {cx : Cx} {c : Code} {Q Q' : Po} {T : List V} {h : List Blk} (hc : AW cx c Q T h) (h0 : Q'.n = Q.n) (h1 : ∀ T h, Q.nx T h → Q'.nx T h) (h2 : ∀ i T h, Q.ex i T h → Q'.ex i T h) (h3 : ∀ T h, Q.rt T h → Q'.rt T h) (h4 : ∀ T v h, Q.pn T v h → Q'.pn T v h) : AW cx c Q' T h := by
  intro g w0 own df a w hh
  refine wp_mono (hc g w0 own df a w hh) ?_
  intro e a w he
  rw [h0]
  cases e with
  | normal => exact Then.mono (.refl _ _) h1 he
  | exit i => exact Then.mono (.refl _ _) (h2 i) he
  | ret => exact Then.mono (.refl _ _) h3 he
  | panic ch => exact ThenP.mono (.refl _ _) h4 he
  | goto l => exact he
  | outgrown => exact he


end Go.Proofs.Ytlfnhbbgpifidaa.Sx
