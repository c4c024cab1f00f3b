/- ProbBounds as a plain statement about numbers: the printed function answers true for every range and P. No condition beside the kinds of the two numbers. -/
import Derived.Test.YtlfnhbbgpifidaaPProbBoundsx2
namespace Go.Proofs.Ytlfnhbbgpifidaa.Pure
open Go.RowKit Go.Proofs.Ytlfnhbbgpifidaa.PProbBounds Go.Proofs.YtlfnhbbgpifidaaW.PrintWords Go.Proofs.YtlfnhbbgpifidaaW.PrintLast Go.Proofs.YtlfnhbbgpifidaaW.PrintMore

theorem u8_range {a : Int} (h : (Lit.int .u8 a).wf = true) : 0 ≤ a ∧ a ≤ 255 := by
  simp only [Lit.wf, IntKind.min, IntKind.max, IntKind.signed, IntKind.bits, Bool.and_eq_true] at h
  have h1 := of_decide_eq_true h.1
  have h2 := of_decide_eq_true h.2
  simp at h1 h2
  omega
theorem tmod_pos (a b : Int) (h : 0 ≤ a) : Int.tmod a b = a % b := Int.tmod_eq_emod_of_nonneg h
theorem tmod_neg (a b : Int) (h : a < 0) : Int.tmod a b = - ((-a) % b) := by
  have : a = - (-a) := by omega
  rw [this, Int.neg_tmod, Int.tmod_eq_emod_of_nonneg (by omega)]
  simp
theorem wrap_256 (a0 : Int) : Int.tmod (wrap64 ((Int.tmod a0 256) + 256)) 256 = a0 % 256 := by
  by_cases h : 0 ≤ a0
  · rw [tmod_pos a0 _ h, tmod_pos _ _ (by unfold wrap64; omega)]; unfold wrap64; omega
  · rw [tmod_neg a0 _ (by omega), tmod_pos _ _ (by unfold wrap64; omega)]; unfold wrap64; omega

def good (p w : Int) : Bool :=
  match prob_Share.f 100 p w with
  | some (n, e) => e == 0 && decide (6 ≤ n) && decide (n ≤ 240) && decide (112 ≤ 256 + 64 * w - n) && (spindlelaw23_ProbBounds.j0 100 p w n false == some true)
  | none => false

theorem good_all : ∀ p : Fin 63, ∀ w : Fin 4, good (p.val : Int) (w.val : Int) = true := by decide +kernel

theorem good_gives {p w : Int} (h : good p w = true) : ∃ n, prob_Share.f 100 p w = some (n, 0) ∧ 6 ≤ n ∧ n ≤ 240 ∧ 112 ≤ 256 + 64 * w - n ∧ spindlelaw23_ProbBounds.j0 100 p w n false = some true := by
  unfold good at h
  split at h
  · rename_i n e he
    simp only [Bool.and_eq_true, beq_iff_eq, decide_eq_true_eq] at h
    obtain ⟨⟨⟨⟨h1, h2⟩, h3⟩, h4⟩, h5⟩ := h
    exact ⟨n, by rw [he, h1], h2, h3, h4, h5⟩
  · cases h

theorem ProbBounds : spindlelaw23_ProbBounds.Pure := by
  intro a0 a1 h0 h1
  have h1' := u8_range h1
  refine ⟨100, ?_⟩
  obtain ⟨p, hp⟩ : ∃ p : Fin 63, Int.tmod a1 63 = (p.val : Int) := ⟨⟨(a1 % 63).toNat, by omega⟩, by rw [tmod_pos _ _ h1'.1]; simp only []; omega⟩
  obtain ⟨q, hq, q0, q1⟩ : ∃ q, wrap64 (a0 % 256 + 256) = q ∧ 256 ≤ q ∧ q ≤ 511 := ⟨_, rfl, by unfold wrap64; omega, by unfold wrap64; omega⟩
  obtain ⟨w, hw⟩ : ∃ w : Fin 4, Int.tmod (wrap64 (Int.tdiv q 64)) 4 = (w.val : Int) :=
    ⟨⟨(q / 64 % 4).toNat, by omega⟩, by rw [Int.tdiv_eq_ediv_of_nonneg (by omega), tmod_pos _ _ (by unfold wrap64; omega)]; simp only []; unfold wrap64; omega⟩
  have hwq : 256 + 64 * (w.val : Int) ≤ q := by
    rw [Int.tdiv_eq_ediv_of_nonneg (by omega), tmod_pos _ _ (by unfold wrap64; omega)] at hw
    unfold wrap64 at hw
    omega
  obtain ⟨n, e, n0, n1, n2, hj⟩ := good_gives (good_all p w)
  unfold spindlelaw23_ProbBounds.f
  rw [wrap_256, hq, hw, hp, e]
  simp only [Option.bind_some, if_true]
  rw [if_neg (by omega), if_neg (by omega), if_neg (by unfold wrap64; omega), if_neg (by unfold wrap64; omega),
    show decide (wrap64 (wrap64 (q - n) * 4) < 256) = false from decide_eq_false (by unfold wrap64; omega)]
  exact hj

end Go.Proofs.Ytlfnhbbgpifidaa.Pure
