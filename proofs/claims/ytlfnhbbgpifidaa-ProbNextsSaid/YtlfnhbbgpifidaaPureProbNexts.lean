/- ProbNexts as a plain statement about numbers and lists: the printed function answers true for every state and every list of bytes. No condition beside the kinds of the numbers. -/
import Derived.Test.YtlfnhbbgpifidaaPProbNextsx
namespace Go.Proofs.Ytlfnhbbgpifidaa.PureNexts
open Go.RowKit Go.Proofs.Ytlfnhbbgpifidaa.PProbNexts Go.Proofs.YtlfnhbbgpifidaaW.PrintWords Go.Proofs.YtlfnhbbgpifidaaW.PrintLast Go.Proofs.YtlfnhbbgpifidaaW.PrintMore

theorem u8_range {a : Int} (h : (Lit.int .u8 a).wf = true) : 0 ≤ a ∧ a ≤ 255 := by
  simp only [Lit.wf, IntKind.min, IntKind.max, IntKind.signed, IntKind.bits, Bool.and_eq_true] at h
  have h1 := of_decide_eq_true h.1
  have h2 := of_decide_eq_true h.2
  simp at h1 h2
  omega
theorem tmod_pos (a b : Int) (h : 0 ≤ a) : Int.tmod a b = a % b := Int.tmod_eq_emod_of_nonneg h
theorem tmod_neg (a b : Int) (h : a < 0) : Int.tmod a b = - ((-a) % b) := by
  have : a = - (-a) := by omega
  rw [this, Int.neg_tmod, Int.tmod_eq_emod_of_nonneg (by omega)]
  simp

theorem alive_at (k : Nat) (h : 2 ≤ k) : spindlelaw23_alive.f k = some true := by
  refine at_rounds (g := spindlelaw23_alive.f) spindlelaw23_alive.mono h ?_
  decide +kernel

def nextBoth (s0 s1 b : Int) : Prop := ∃ r0 r1 e, prob_Next.f s0 s1 b = some (r0, r1, e) ∧ spindleref23_Next.f s0 s1 b = some (r0, r1, e) ∧ 0 ≤ r0 ∧ r0 ≤ 255 ∧ 0 ≤ r1 ∧ r1 ≤ 255

def nextB (s0 s1 b : Int) : Bool :=
  match prob_Next.f s0 s1 b, spindleref23_Next.f s0 s1 b with
  | some (r0, r1, e), some (q0, q1, f) => r0 == q0 && r1 == q1 && e == f && decide (0 ≤ r0) && decide (r0 ≤ 255) && decide (0 ≤ r1) && decide (r1 ≤ 255)
  | _, _ => false

theorem nextB_gives {s0 s1 b : Int} (h : nextB s0 s1 b = true) : nextBoth s0 s1 b := by
  unfold nextB at h
  split at h
  · rename_i r0 r1 e q0 q1 f h1 h2
    simp only [Bool.and_eq_true, beq_iff_eq, decide_eq_true_eq] at h
    obtain ⟨⟨⟨⟨⟨⟨e1, e2⟩, e3⟩, h3⟩, h4⟩, h5⟩, h6⟩ := h
    subst e1 e2 e3
    exact ⟨_, _, _, h1, h2, h3, h4, h5, h6⟩
  · cases h

theorem next_small : ∀ p : Fin 63, ∀ m : Fin 2, ∀ b : Fin 2, nextB (p.val : Int) (m.val : Int) (b.val : Int) = true := by decide +kernel

theorem next_both (s0 s1 b : Int) (h0 : 0 ≤ s0) (h1 : 0 ≤ s1) (h2 : 0 ≤ b) : nextBoth s0 s1 b := by
  by_cases c0 : s0 > 62
  · refine ⟨0, 0, 3, ?_, ?_, by omega, by omega, by omega, by omega⟩
    · unfold prob_Next.f prob_Check.f; rw [if_pos c0]; simp
    · unfold spindleref23_Next.f spindleref23_Check.f; rw [if_pos c0]; simp
  · by_cases c1 : s1 > 1
    · refine ⟨0, 0, 3, ?_, ?_, by omega, by omega, by omega, by omega⟩
      · unfold prob_Next.f prob_Check.f; rw [if_neg c0, if_pos c1]; simp
      · unfold spindleref23_Next.f spindleref23_Check.f; rw [if_neg c0, if_pos c1]; simp
    · by_cases c2 : b > 1
      · refine ⟨0, 0, 3, ?_, ?_, by omega, by omega, by omega, by omega⟩
        · unfold prob_Next.f prob_Check.f; rw [if_neg c0, if_neg c1]; simp only [Option.bind_some, if_true]; rw [if_pos c2]
        · unfold spindleref23_Next.f spindleref23_Check.f; rw [if_neg c0, if_neg c1]; simp only [Option.bind_some, if_true]; rw [if_pos c2]
      · obtain ⟨p, rfl⟩ : ∃ p : Fin 63, s0 = (p.val : Int) := ⟨⟨s0.toNat, by omega⟩, by simp only []; omega⟩
        obtain ⟨m, rfl⟩ : ∃ m : Fin 2, s1 = (m.val : Int) := ⟨⟨s1.toNat, by omega⟩, by simp only []; omega⟩
        obtain ⟨d, rfl⟩ : ∃ d : Fin 2, b = (d.val : Int) := ⟨⟨b.toNat, by omega⟩, by simp only []; omega⟩
        exact nextB_gives (next_small p m d)

theorem loop (l : List Int) (hw : ∀ x ∈ l, (Lit.int .u8 x).wf = true) : ∀ (d : Nat) (k : Nat) (i s0 s1 : Int), 0 ≤ i → 300 - i = d → 3 * d + 10 ≤ k → 0 ≤ s0 → 0 ≤ s1 →
    spindlelaw23_ProbNexts.l0 k l i s0 s1 s0 s1 = some true
  | d, k, i, s0, s1, hi, hd, hk, h0, h1 => by
    obtain ⟨k, rfl⟩ : ∃ m, k = m + 1 + 1 + 1 := ⟨k - 3, by omega⟩
    simp only [spindlelaw23_ProbNexts.l0, spindlelaw23_ProbNexts.j1]
    by_cases hl : i < (l.length : Int)
    · rw [if_pos hl]
      by_cases h3 : i < 300
      · rw [if_pos (by simp [h3]), if_pos hi, if_pos hl]
        have hb : 0 ≤ rd l i := by
          have hm : i.toNat < l.length := by omega
          have : rd l i = l[i.toNat] := by simp [rd, hm]
          rw [this]
          exact (u8_range (hw _ (List.getElem_mem _))).1
        obtain ⟨r0, r1, e, e1, e2, q0, _, q1, _⟩ := next_both s0 s1 (rd l i) h0 h1 hb
        rw [e1, e2]
        simp only [Option.bind_some, beq_self_eq_true, Bool.not_true, Bool.or_self, Bool.false_eq_true, if_false, spindlelaw23_ProbNexts.j2, bne_self_eq_false]
        rw [show wrap64 (i + 1) = i + 1 from by unfold wrap64; omega]
        match d, hd, hk with
        | 0, hd, _ => omega
        | d + 1, hd, hk =>
          split
          · exact loop l hw d k (i + 1) r0 r1 (by omega) (by omega) (by omega) q0 q1
          · exact loop l hw d k (i + 1) s0 s1 (by omega) (by omega) (by omega) h0 h1
      · rw [if_neg (by simp [h3]), alive_at _ (by omega)]; rfl
    · rw [if_neg hl, if_neg (by simp), alive_at _ (by omega)]; rfl

theorem ProbNexts (s0 s1 : Int) (l : List Int) (h0 : (Lit.int .u8 s0).wf = true) (h1 : (Lit.int .u8 s1).wf = true) (hw : ∀ x ∈ l, (Lit.int .u8 x).wf = true) :
    spindlelaw23_ProbNexts.f 1000 s0 s1 l = some true := by
  have g0 := (u8_range h0).1
  have g1 := (u8_range h1).1
  unfold spindlelaw23_ProbNexts.f
  have e : prob_Check.f s0 s1 = spindleref23_Check.f s0 s1 := rfl
  have hs : ∃ c, spindleref23_Check.f s0 s1 = some c := by unfold spindleref23_Check.f; split <;> (try split) <;> exact ⟨_, rfl⟩
  obtain ⟨c, hc⟩ := hs
  rw [e, hc]
  simp only [Option.bind_some, if_true]
  exact loop l hw 300 1000 0 s0 s1 (by omega) (by omega) (by omega) g0 g1

end Go.Proofs.Ytlfnhbbgpifidaa.PureNexts
