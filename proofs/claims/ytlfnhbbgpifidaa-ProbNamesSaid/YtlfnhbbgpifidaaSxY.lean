/- Closed walks, by computation: that what is computed holds. -/
import Derived.Test.YtlfnhbbgpifidaaSxX
namespace Go.Proofs.Ytlfnhbbgpifidaa.Sx
set_option linter.unusedVariables false
set_option linter.unusedSimpArgs false
open Go.RowKit

section
variable {cx : Cx} {Q : Po} {k : List It} {T : List V} {h : List Blk}

theorem stk_skip (hv : (stk cx Q k).nx T h) : (stk cx Q (.c .skip :: k)).nx T h := fun g w0 own df a w hh => wp_skip ⟨g, T, h, .refl _ g, hv, hh⟩
theorem stk_seq {a b : Code} (h1 : (stk cx Q (.c a :: .c b :: k)).nx T h) : (stk cx Q (.c (.seq a b) :: k)).nx T h := by
  have h1 : AW cx a (stk cx Q (.c b :: k)) T h := h1
  intro g w0 own df st w hh
  refine wp_seq (wp_mono (h1 g w0 own df st w hh) ?_)
  intro e a w he
  cases e with
  | normal =>
    obtain ⟨g', T', h', hle, hk, hh'⟩ := he
    refine wp_mono (hk g' w0 own df a w hh') ?_
    intro e a w he
    cases e with
    | normal => exact Then.mono hle (fun _ _ h => h) he
    | exit i => exact Then.mono hle (fun _ _ h => h) he
    | ret => exact Then.mono hle (fun _ _ h => h) he
    | panic ch => exact ThenP.mono hle (fun _ _ _ h => h) he
    | goto l => exact he
    | outgrown => exact he
  | exit i => exact he
  | ret => exact he
  | panic ch => exact he
  | goto l => exact he
  | outgrown => exact he
theorem stk_region {id : Nat} {ops : Array Oper} (h1 : (stk cx Q (.ops (slim ops.toList ops.toList) :: k)).nx T h) : (stk cx Q (.c (.region id ops false) :: k)).nx T h := by
  have h2 : run cx ops.toList ops.toList T h (stk cx Q k).nx (stk cx Q k).pn := h1 _ _ rfl
  intro g w0 own df a w hh
  have := run_ok (cx := cx) (ops := ops) (w0 := w0) (own := own) (df := df) (K := (stk cx Q k).nx) (Kp := (stk cx Q k).pn) (g0 := g) (n0 := (stk cx Q k).n) (Q := Ends cx (stk cx Q k) g w0 own df) (fun _ _ h => h) (fun _ _ _ h => h) 0 ops.toList rfl T h g a w (.refl _ g) h2 hh
  rw [List.drop_zero] at this
  refine wp_mono (wp_region this) ?_
  intro e a w he
  cases e <;> exact he
theorem stk_cond_true {c : Operand} {a b : Code} (hc : eo cx T c = .bool true) (h1 : (stk cx Q (.c a :: k)).nx T h) : (stk cx Q (.c (.cond c a b) :: k)).nx T h := by
  have h1 : AW cx a (stk cx Q k) T h := h1
  intro g w0 own df st w hh
  exact wp_cond_true (hc ▸ eo_R hh.2.1 hh.2.2.1 c).bool_inv (h1 g w0 own df st w hh)
theorem stk_cond_false {c : Operand} {a b : Code} (hc : eo cx T c = .bool false) (h1 : (stk cx Q (.c b :: k)).nx T h) : (stk cx Q (.c (.cond c a b) :: k)).nx T h := by
  have h1 : AW cx b (stk cx Q k) T h := h1
  intro g w0 own df st w hh
  exact wp_cond_false (hc ▸ eo_R hh.2.1 hh.2.2.1 c).bool_inv (h1 g w0 own df st w hh)
theorem stk_block {id : Nat} {x : Code} (h1 : (stk cx Q (.c x :: .b id :: k)).nx T h) : (stk cx Q (.c (.block id x) :: k)).nx T h := by
  have h1 : AW cx x (stk cx Q (.b id :: k)) T h := h1
  intro g w0 own df a w hh
  refine wp_block (wp_mono (h1 g w0 own df a w hh) ?_)
  intro e a w he
  cases e with
  | normal => exact he
  | exit i =>
    simp only [Exit.inBlock]
    split
    · rename_i e'; subst e'; exact Then.mono (.refl _ _) (fun _ _ h => by simpa [stk] using h) he
    · rename_i e'; exact Then.mono (.refl _ _) (fun _ _ h => by simpa [stk, e'] using h) he
  | ret => exact he
  | panic ch => exact he
  | goto l => exact he
  | outgrown => exact he
theorem stk_exit {id : Nat} {k' : List It} (hp : pop id k = some k') (hv : (stk cx Q k').nx T h) : (stk cx Q (.c (.exit id) :: k)).nx T h := by
  intro g w0 own df a w hh
  refine wp_exit ⟨g, T, h, .refl _ g, ?_, hh⟩
  rw [stk_ex, hp]
  exact hv
theorem stk_ret (hv : Q.rt T h) : (stk cx Q (.c .ret :: k)).nx T h := fun g w0 own df a w hh => wp_ret ⟨g, T, h, .refl _ g, by rw [stk_rt]; exact hv, hh⟩
theorem stk_loop {c : Code} (hv : (stk cx Q (.c c :: .lp c :: k)).nx T h) : (stk cx Q (.c (.loop c) :: k)).nx T h := AL.loop (AL.round hv)
theorem stk_lp {c : Code} (hv : (stk cx Q (.c c :: .lp c :: k)).nx T h) : (stk cx Q (.lp c :: k)).nx T h := AL.round hv

theorem run_of_gd {all r : List Oper} {o : Oper} {K : KT} {Kp : List V → KV}
    (hg : gdV T (gdOf all o.guard) (StepOk cx o T h (fun v h' => run cx all r (putT T o.dst v) h' K Kp) (Kp T)) (run cx all r (putT T o.dst .any) h K Kp)) : run cx all (o :: r) T h K Kp := by
  simp only [run]
  cases hgd : o.guard with
  | none => rw [hgd] at hg; exact hg
  | some q =>
    obtain ⟨j, w⟩ := q
    rw [hgd] at hg
    simp only [gdOf] at hg
    cases hs : gslot all j with
    | none => rw [hs] at hg; exact hg.elim
    | some s =>
      rw [hs] at hg
      simp only [hs]
      rcases gdV_cases hg with ⟨e, _⟩ | ⟨s', w', e, hh⟩
      · cases e
      · cases e
        rcases hh with ⟨hv, hy⟩ | ⟨hv, hn⟩
        · rw [hv]
          refine ⟨fun _ => ?_, fun e => ?_⟩
          · rw [putT_self hv]; exact hy
          · cases w <;> cases e
        · rw [hv]
          refine ⟨fun e => ?_, fun _ => ?_⟩
          · cases w <;> cases e
          · rw [putT_self hv]; exact hn

theorem stepE_ok {ih : Ev} (hi : Good cx ih) : Good cx (stepE cx ih) := by
  have hec : ∀ T, ec cx T = eo cx T := fun T => funext (ec_eq cx T)
  intro k T h T' h' e Q hn hr
  have next : ∀ {k T h}, ih k T h = some (T', h') → (stk cx Q k).nx T h := fun e => hi _ _ _ _ _ e Q hn hr
  unfold stepE at e
  split at e
  · simp only [Option.some.injEq, Prod.mk.injEq] at e
    obtain ⟨rfl, rfl⟩ := e
    exact hn
  · exact stk_skip (next e)
  · exact stk_seq (next e)
  · exact stk_region (next e)
  · split at e
    · rename_i t hp hm
      exact aw_any hm hp (next e)
    · cases e
  · rw [hec] at e
    split at e
    · rename_i hc; exact stk_cond_true hc (next e)
    · rename_i hc; exact stk_cond_false hc (next e)
    · cases e
  · exact stk_block (next e)
  · split at e
    · rename_i k' hp; exact stk_exit hp (next e)
    · cases e
  · simp only [Option.some.injEq, Prod.mk.injEq] at e
    obtain ⟨rfl, rfl⟩ := e
    exact stk_ret hr
  · exact stk_loop (next e)
  · cases e
  · have := next e; exact this
  · exact stk_lp (next e)
  · intro all rest hs
    cases rest with
    | nil => exact next e
    | cons o r => cases hs
  · intro all rest hs
    cases rest with
    | nil => cases hs
    | cons o r =>
      simp only [slim, List.cons.injEq] at hs
      obtain ⟨rfl, rfl⟩ := hs
      refine run_of_gd (gdE_ok e (fun e => ?_) (fun e => ?_))
      · obtain ⟨v, h1, hN, hop⟩ := opE_ok hi e
        refine opA_ok (T := _) (fun _ _ => rfl) (hop _ _ ?_)
        rw [putR_eq] at hN
        exact next hN _ _ rfl
      · rw [putR_eq] at e
        exact next e _ _ rfl
  · have := next e; exact this
  · refine gdE_ok e (fun e => ?_) (fun e => ?_)
    · split at e
      · rename_i v h1 hv
        rw [forceV_eq, putR_eq] at e
        obtain ⟨k1, k2, _⟩ := sc_ok hv
        exact ⟨k1, by rw [k2]; exact next e⟩
      · cases e
    · rw [putR_eq] at e
      exact next e
  · refine ⟨gdE_ok e (fun e => ?_) (fun e => ?_), trivial⟩
    · obtain ⟨v, h1, hN, hop⟩ := opE_ok hi e
      refine hop _ _ ⟨trivial, ?_⟩
      rw [putR_eq] at hN
      exact next hN
    · rw [putR_eq] at e
      exact ⟨trivial, next e⟩
  · cases e
  · cases e

theorem ev_ok (cx : Cx) : ∀ n, Good cx (ev cx n)
  | 0 => fun k T h T' h' e => by cases e
  | n + 1 => stepE_ok (ev_ok cx n)

/-- A call that is computed. -/
theorem calls_ev {cx : Cx} (n : Nat) {f : FuncId} {args : List V} {h : List Blk} {v : V} {h' : List Blk} (e : callE cx (ev cx n) f args h = some (v, h')) {K Kp : KV} (hK : K v h') : ACalls cx f args h K Kp :=
  callE_ok (ev_ok cx n) e hK

def isT : Sc → Bool
  | some (.bool true, _) => true
  | _ => false
/-- A call that is computed, and says that it is so. -/
theorem calls_T {cx : Cx} (n : Nat) {f : FuncId} {args : List V} {h : List Blk} (e : isT (callE cx (ev cx n) f args h) = true) {K Kp : KV} (hK : ∀ h', K (.bool true) h') : ACalls cx f args h K Kp := by
  cases hc : callE cx (ev cx n) f args h with
  | none => rw [hc] at e; cases e
  | some p =>
    obtain ⟨v, h'⟩ := p
    rw [hc] at e
    cases v <;> first | (cases e; done) | skip
    rename_i b
    cases b <;> first | (cases e; done) | skip
    exact calls_ev n hc (hK h')
end
end Go.Proofs.Ytlfnhbbgpifidaa.Sx
