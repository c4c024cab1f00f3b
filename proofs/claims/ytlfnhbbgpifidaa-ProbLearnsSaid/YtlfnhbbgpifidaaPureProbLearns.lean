/- ProbLearns as a plain statement about numbers: the printed function answers true for every state and every bit. No condition beside the kinds of the numbers. -/
import Derived.Test.YtlfnhbbgpifidaaPProbLearnsx
namespace Go.Proofs.Ytlfnhbbgpifidaa.PureLearns
open Go.RowKit Go.Proofs.Ytlfnhbbgpifidaa.PProbLearns Go.Proofs.YtlfnhbbgpifidaaW.PrintWords Go.Proofs.YtlfnhbbgpifidaaW.PrintLast Go.Proofs.YtlfnhbbgpifidaaW.PrintMore

theorem u8_range {a : Int} (h : (Lit.int .u8 a).wf = true) : 0 ≤ a ∧ a ≤ 255 := by
  simp only [Lit.wf, IntKind.min, IntKind.max, IntKind.signed, IntKind.bits, Bool.and_eq_true] at h
  have h1 := of_decide_eq_true h.1
  have h2 := of_decide_eq_true h.2
  simp at h1 h2
  omega
theorem tmod_pos (a b : Int) (h : 0 ≤ a) : Int.tmod a b = a % b := Int.tmod_eq_emod_of_nonneg h
theorem tmod_neg (a b : Int) (h : a < 0) : Int.tmod a b = - ((-a) % b) := by
  have : a = - (-a) := by omega
  rw [this, Int.neg_tmod, Int.tmod_eq_emod_of_nonneg (by omega)]
  simp

theorem learns_all : ∀ p : Fin 63, ∀ m : Fin 2, ∀ b : Fin 2, spindlelaw23_ProbLearns.l0 110 (b.val : Int) 0 (p.val : Int) (m.val : Int) = some true := by decide +kernel

theorem ProbLearns (s0 s1 b : Int) (h0 : (Lit.int .u8 s0).wf = true) (h1 : (Lit.int .u8 s1).wf = true) (h2 : (Lit.int .u8 b).wf = true) :
    spindlelaw23_ProbLearns.f 110 s0 s1 b = some true := by
  have g0 := u8_range h0
  have g1 := u8_range h1
  have g2 := u8_range h2
  unfold spindlelaw23_ProbLearns.f
  rw [tmod_pos _ _ g0.1, tmod_pos _ _ g1.1, tmod_pos _ _ g2.1]
  obtain ⟨p, hp⟩ : ∃ p : Fin 63, s0 % 63 = (p.val : Int) := ⟨⟨(s0 % 63).toNat, by omega⟩, by simp only []; omega⟩
  obtain ⟨m, hm⟩ : ∃ m : Fin 2, s1 % 2 = (m.val : Int) := ⟨⟨(s1 % 2).toNat, by omega⟩, by simp only []; omega⟩
  obtain ⟨d, hd⟩ : ∃ d : Fin 2, b % 2 = (d.val : Int) := ⟨⟨(b % 2).toNat, by omega⟩, by simp only []; omega⟩
  rw [hp, hm, hd]
  exact learns_all p m d

end Go.Proofs.Ytlfnhbbgpifidaa.PureLearns
