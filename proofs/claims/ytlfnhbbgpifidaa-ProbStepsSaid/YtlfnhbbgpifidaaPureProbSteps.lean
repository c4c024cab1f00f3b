/- ProbSteps as a plain statement about numbers and lists: the printed function answers true for every state and every list of bytes. No condition beside the kinds of the numbers. -/
import Derived.Test.YtlfnhbbgpifidaaPProbStepsx
namespace Go.Proofs.Ytlfnhbbgpifidaa.PureSteps
open Go.RowKit Go.Proofs.Ytlfnhbbgpifidaa.PProbSteps Go.Proofs.YtlfnhbbgpifidaaW.PrintWords Go.Proofs.YtlfnhbbgpifidaaW.PrintLast Go.Proofs.YtlfnhbbgpifidaaW.PrintMore

theorem u8_range {a : Int} (h : (Lit.int .u8 a).wf = true) : 0 ≤ a ∧ a ≤ 255 := by
  simp only [Lit.wf, IntKind.min, IntKind.max, IntKind.signed, IntKind.bits, Bool.and_eq_true] at h
  have h1 := of_decide_eq_true h.1
  have h2 := of_decide_eq_true h.2
  simp at h1 h2
  omega
theorem tmod_pos (a b : Int) (h : 0 ≤ a) : Int.tmod a b = a % b := Int.tmod_eq_emod_of_nonneg h
theorem tmod_neg (a b : Int) (h : a < 0) : Int.tmod a b = - ((-a) % b) := by
  have : a = - (-a) := by omega
  rw [this, Int.neg_tmod, Int.tmod_eq_emod_of_nonneg (by omega)]
  simp

theorem alive_at (k : Nat) (h : 2 ≤ k) : spindlelaw23_alive.f k = some true := by
  refine at_rounds (g := spindlelaw23_alive.f) spindlelaw23_alive.mono h ?_
  decide +kernel

/-- One round: what the law looks at, at a valid state and a bit. -/
def roundB (s0 s1 b : Int) : Bool :=
  match prob_Next.f s0 s1 b, prob_Next.f s0 ((1 - s1) % 256) ((1 - b) % 256) with
  | some (r0, r1, e), some (q0, q1, f) => e == 0 && f == 0 && prob_Check.f r0 r1 == some 0 && q0 == r0 && q1 == (1 - r1) % 256 && (!decide (b = s1) || (decide (s0 ≤ r0) && r1 == s1)) && (decide (b = s1) || decide (r0 < s0) || decide (r0 = 0)) && decide (0 ≤ r0) && decide (r0 ≤ 62) && decide (0 ≤ r1) && decide (r1 ≤ 1)
  | _, _ => false

theorem round_all : ∀ p : Fin 63, ∀ m : Fin 2, ∀ b : Fin 2, roundB (p.val : Int) (m.val : Int) (b.val : Int) = true := by decide +kernel

theorem round_gives {s0 s1 b : Int} (h : roundB s0 s1 b = true) : ∃ r0 r1, prob_Next.f s0 s1 b = some (r0, r1, 0) ∧ prob_Next.f s0 ((1 - s1) % 256) ((1 - b) % 256) = some (r0, (1 - r1) % 256, 0) ∧ prob_Check.f r0 r1 = some 0 ∧
    (b = s1 → s0 ≤ r0 ∧ r1 = s1) ∧ (b ≠ s1 → r0 < s0 ∨ r0 = 0) ∧ 0 ≤ r0 ∧ r0 ≤ 62 ∧ 0 ≤ r1 ∧ r1 ≤ 1 := by
  unfold roundB at h
  split at h
  · rename_i r0 r1 e q0 q1 f h1 h2
    simp only [Bool.and_eq_true, Bool.or_eq_true, Bool.not_eq_true', beq_iff_eq, decide_eq_true_eq, decide_eq_false_iff_not] at h
    obtain ⟨⟨⟨⟨⟨⟨⟨⟨⟨⟨e1, e2⟩, h3⟩, e4⟩, e5⟩, h6⟩, h7⟩, h8⟩, h9⟩, h10⟩, h11⟩ := h
    subst e1 e2 e4 e5
    refine ⟨_, _, h1, h2, h3, ?_, ?_, h8, h9, h10, h11⟩
    · intro hb; rcases h6 with h | h
      · exact absurd hb h
      · exact h
    · intro hb; rcases h7 with (h | h) | h
      · exact absurd h hb
      · exact .inl h
      · exact .inr h
  · cases h

theorem loop (l : List Int) (hw : ∀ x ∈ l, (Lit.int .u8 x).wf = true) : ∀ (d : Nat) (k : Nat) (i s0 s1 : Int), 0 ≤ i → 300 - i = d → 3 * d + 10 ≤ k → 0 ≤ s0 → s0 ≤ 62 → 0 ≤ s1 → s1 ≤ 1 →
    spindlelaw23_ProbSteps.l0 k l i s0 s1 = some true
  | d, k, i, s0, s1, hi, hd, hk, h0, h0', h1, h1' => by
    obtain ⟨k, rfl⟩ : ∃ m, k = m + 1 + 1 + 1 := ⟨k - 3, by omega⟩
    simp only [spindlelaw23_ProbSteps.l0, spindlelaw23_ProbSteps.j1]
    by_cases hl : i < (l.length : Int)
    · rw [if_pos hl]
      by_cases h3 : i < 300
      · rw [if_pos (by simp [h3]), if_pos hi, if_pos hl]
        have hb : 0 ≤ rd l i := by
          have hm : i.toNat < l.length := by omega
          have : rd l i = l[i.toNat] := by simp [rd, hm]
          rw [this]
          exact (u8_range (hw _ (List.getElem_mem _))).1
        rw [tmod_pos _ _ hb]
        obtain ⟨p, rfl⟩ : ∃ p : Fin 63, s0 = (p.val : Int) := ⟨⟨s0.toNat, by omega⟩, by simp only []; omega⟩
        obtain ⟨m, rfl⟩ : ∃ m : Fin 2, s1 = (m.val : Int) := ⟨⟨s1.toNat, by omega⟩, by simp only []; omega⟩
        obtain ⟨b, hbb⟩ : ∃ b : Fin 2, rd l i % 2 = (b.val : Int) := ⟨⟨(rd l i % 2).toNat, by omega⟩, by simp only []; omega⟩
        rw [hbb]
        obtain ⟨r0, r1, e1, e2, e3, g1, g2, q0, q0', q1, q1'⟩ := round_gives (round_all p m b)
        rw [e1, e2]
        simp only [Option.bind_some, if_true, e3, beq_self_eq_true, Bool.not_true, Bool.or_self, spindlelaw23_ProbSteps.j2, Bool.false_eq_true, if_false]
        rw [show wrap64 (i + 1) = i + 1 from by unfold wrap64; omega]
        match d, hd, hk with
        | 0, hd, _ => omega
        | d + 1, hd, hk =>
          have step := loop l hw d k (i + 1) r0 r1 (by omega) (by omega) (by omega) q0 q0' q1 q1'
          by_cases hbs : (b.val : Int) = (m.val : Int)
          · obtain ⟨g3, g4⟩ := g1 hbs
            rw [if_pos hbs, if_neg (by omega), if_pos g4]; exact step
          · rw [if_neg hbs]
            rcases g2 hbs with g | g
            · rw [if_neg (by omega)]; exact step
            · by_cases c : r0 ≥ (p.val : Int)
              · rw [if_pos c, if_neg (by omega)]; exact step
              · rw [if_neg c]; exact step
      · rw [if_neg (by simp [h3]), alive_at _ (by omega)]; rfl
    · rw [if_neg hl, if_neg (by simp), alive_at _ (by omega)]; rfl

theorem ProbSteps (s0 s1 : Int) (l : List Int) (h0 : (Lit.int .u8 s0).wf = true) (h1 : (Lit.int .u8 s1).wf = true) (hw : ∀ x ∈ l, (Lit.int .u8 x).wf = true) :
    spindlelaw23_ProbSteps.f 1000 s0 s1 l = some true := by
  have g0 := u8_range h0
  have g1 := u8_range h1
  unfold spindlelaw23_ProbSteps.f
  rw [tmod_pos _ _ g0.1, tmod_pos _ _ g1.1]
  exact loop l hw 300 1000 0 _ _ (by omega) (by omega) (by omega) (by omega) (by omega) (by omega) (by omega)

end Go.Proofs.Ytlfnhbbgpifidaa.PureSteps
