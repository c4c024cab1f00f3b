/- ProbShares as a plain statement about numbers: the printed function answers true for every p and width. No condition beside the kinds of the two numbers. -/
import Derived.Test.YtlfnhbbgpifidaaPProbSharesx2
namespace Go.Proofs.Ytlfnhbbgpifidaa.Pure
open Go.RowKit Go.Proofs.Ytlfnhbbgpifidaa.PProbShares Go.Proofs.YtlfnhbbgpifidaaW.PrintWords Go.Proofs.YtlfnhbbgpifidaaW.PrintLast Go.Proofs.YtlfnhbbgpifidaaW.PrintMore

theorem u8_range {a : Int} (h : (Lit.int .u8 a).wf = true) : 0 ≤ a ∧ a ≤ 255 := by
  simp only [Lit.wf, IntKind.min, IntKind.max, IntKind.signed, IntKind.bits, Bool.and_eq_true] at h
  have h1 := of_decide_eq_true h.1
  have h2 := of_decide_eq_true h.2
  simp at h1 h2
  omega
theorem tmod_pos (a b : Int) (h : 0 ≤ a) : Int.tmod a b = a % b := Int.tmod_eq_emod_of_nonneg h
theorem tmod_neg (a b : Int) (h : a < 0) : Int.tmod a b = - ((-a) % b) := by
  have : a = - (-a) := by omega
  rw [this, Int.neg_tmod, Int.tmod_eq_emod_of_nonneg (by omega)]
  simp

theorem shares_rest (x y : Int) (h : Int.tmod x 4 = Int.tmod y 4) : ∀ k i, spindlelaw23_ProbShares.l0 k x i = spindlelaw23_ProbShares.l0 k y i
  | 0, _ => by simp only [spindlelaw23_ProbShares.l0]
  | k + 1, i => by
    have ih := shares_rest x y h k
    simp only [spindlelaw23_ProbShares.l0, h, ih]

theorem shares_same : ∀ p : Fin 63, ∀ w : Fin 4, (prob_Share.f 200 (p.val : Int) (w.val : Int)).isSome = true ∧ spindleref23_Share.f 200 (p.val : Int) (w.val : Int) = prob_Share.f 200 (p.val : Int) (w.val : Int) := by decide +kernel

theorem shares_loop : ∀ p : Fin 4, spindlelaw23_ProbShares.l0 199 (p.val : Int) 0 = some true := by decide +kernel

theorem shares_j (a0 : Int) (h : 0 ≤ a0) : spindlelaw23_ProbShares.j0 200 a0 false = some true := by
  have e : spindlelaw23_ProbShares.j0 200 a0 false = spindlelaw23_ProbShares.l0 199 a0 0 := rfl
  rw [e, shares_rest a0 ((Fin.mk (a0 % 4).toNat (by omega) : Fin 4).val : Int) (by rw [tmod_pos _ _ h, tmod_pos _ _ (by simp only []; omega)]; simp only []; omega)]
  exact shares_loop _

theorem ProbShares : spindlelaw23_ProbShares.Pure := by
  intro a0 a1 h0 h1
  refine ⟨200, ?_⟩
  have h0' := (u8_range h0).1
  have key : ∃ r, prob_Share.f 200 a0 a1 = some r ∧ spindleref23_Share.f 200 a0 a1 = some r := by
    by_cases c1 : a0 > 62
    · exact ⟨(0, 3), by unfold prob_Share.f; rw [if_pos c1], by unfold spindleref23_Share.f; rw [if_pos c1]⟩
    · by_cases c2 : a1 < 0
      · exact ⟨(0, 3), by unfold prob_Share.f; rw [if_neg c1, if_pos c2], by unfold spindleref23_Share.f; rw [if_neg c1, if_pos c2]⟩
      · by_cases c3 : a1 > 3
        · exact ⟨(0, 3), by unfold prob_Share.f; rw [if_neg c1, if_neg c2, if_pos c3], by unfold spindleref23_Share.f; rw [if_neg c1, if_neg c2, if_pos c3]⟩
        · obtain ⟨p, rfl⟩ : ∃ p : Fin 63, a0 = (p.val : Int) := ⟨⟨a0.toNat, by omega⟩, by simp only []; omega⟩
          obtain ⟨w, rfl⟩ : ∃ w : Fin 4, a1 = (w.val : Int) := ⟨⟨a1.toNat, by omega⟩, by simp only []; omega⟩
          obtain ⟨s1, s2⟩ := shares_same p w
          obtain ⟨r, hr⟩ := Option.isSome_iff_exists.1 s1
          exact ⟨r, hr, s2.trans hr⟩
  obtain ⟨r, e1, e2⟩ := key
  unfold spindlelaw23_ProbShares.f
  rw [e1]; simp only [Option.bind_some]; rw [e2]; simp only [Option.bind_some, if_true, bne_self_eq_false]
  exact shares_j a0 h0'

end Go.Proofs.Ytlfnhbbgpifidaa.Pure
