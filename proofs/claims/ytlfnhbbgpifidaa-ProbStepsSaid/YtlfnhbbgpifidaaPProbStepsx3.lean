-- PRINTED BY print.sh 35421559b90ae4d0a3588c463048766b98c2df88dd9212a6774a882060cdf62d: not written by this session
import Derived.Test.YtlfnhbbgpifidaaPProbStepsx0
import Derived.Test.YtlfnhbbgpifidaaPProbStepsx1
import Derived.Test.YtlfnhbbgpifidaaPProbStepsx2
namespace Go.Proofs.Ytlfnhbbgpifidaa.PProbSteps
open Go.RowKit Go.Proofs.YtlfnhbbgpifidaaW.PrintWords Go.Proofs.YtlfnhbbgpifidaaW.PrintLast Go.Proofs.YtlfnhbbgpifidaaW.PrintMore
attribute [local go_sem] max2_int min2_int max_two min_two max_three min_three max_four min_four   -- for this text's walks alone
set_option linter.unusedVariables false
set_option linter.unusedSimpArgs false

attribute [local go_sem high] eqA30
/-! ### spindlelaw23_ProbSteps: function 7 -/
mutual
def spindlelaw23_ProbSteps.l0 : Nat → List Int → Int → Int → Int → Option (Bool)
  | 0, _, _, _, _ => none
  | k + 1, x1, x5, x113000, x113001 => if x5 < (x1.length : Int) then (spindlelaw23_ProbSteps.j1 k x1 x5 (decide (x5 < 300)) x113000 x113001) else (spindlelaw23_ProbSteps.j1 k x1 x5 false x113000 x113001)
def spindlelaw23_ProbSteps.j1 : Nat → List Int → Int → Bool → Int → Int → Option (Bool)
  | 0, _, _, _, _, _ => none
  | k + 1, x1, x5, x26, x113000, x113001 => if x26 = true then (if 0 ≤ x5 then (if x5 < (x1.length : Int) then ((prob_Next.f x113000 x113001 (Int.tmod (rd x1 x5) 2)).bind fun bt115 => ((prob_Next.f x113000 ((1 - x113001) % 256) ((1 - (Int.tmod (rd x1 x5) 2)) % 256)).bind fun bt119 => (if bt115.2.2 = 0 then (if bt119.2.2 = 0 then ((prob_Check.f bt115.1 bt115.2.1).bind fun t123 => (if t123 = 0 then (spindlelaw23_ProbSteps.j2 k x1 x5 (Int.tmod (rd x1 x5) 2) (!(bt119.1 == bt115.1) || (!(bt119.2.1 == ((1 - bt115.2.1) % 256)))) x113000 x113001 bt115.1 bt115.2.1) else (spindlelaw23_ProbSteps.j2 k x1 x5 (Int.tmod (rd x1 x5) 2) true x113000 x113001 bt115.1 bt115.2.1))) else (spindlelaw23_ProbSteps.j2 k x1 x5 (Int.tmod (rd x1 x5) 2) true x113000 x113001 bt115.1 bt115.2.1)) else (spindlelaw23_ProbSteps.j2 k x1 x5 (Int.tmod (rd x1 x5) 2) true x113000 x113001 bt115.1 bt115.2.1)))) else (none)) else (none)) else ((spindlelaw23_alive.f k).bind fun t113 => (some t113))
def spindlelaw23_ProbSteps.j2 : Nat → List Int → Int → Int → Bool → Int → Int → Int → Int → Option (Bool)
  | 0, _, _, _, _, _, _, _, _ => none
  | k + 1, x1, x5, x6, x72, x113000, x113001, x119000, x119001 => if x72 = true then (some false) else (if x6 = x113001 then (if x119000 < x113000 then (some false) else (if x119001 = x113001 then (spindlelaw23_ProbSteps.l0 k x1 (wrap64 (x5 + 1)) x119000 x119001) else (some false))) else (if x119000 ≥ x113000 then (if x119000 > 0 then (some false) else (spindlelaw23_ProbSteps.l0 k x1 (wrap64 (x5 + 1)) x119000 x119001)) else (spindlelaw23_ProbSteps.l0 k x1 (wrap64 (x5 + 1)) x119000 x119001)))
end
def spindlelaw23_ProbSteps.f (k : Nat) (a0_0 : Int) (a0_1 : Int) (l1 : List Int) : Option (Bool) := spindlelaw23_ProbSteps.l0 k l1 0 (Int.tmod a0_0 63) (Int.tmod a0_1 2)
theorem spindlelaw23_ProbSteps.mono_l : ∀ k, (∀ y0 y1 y2 y3, LeO (spindlelaw23_ProbSteps.l0 k y0 y1 y2 y3) (spindlelaw23_ProbSteps.l0 (k + 1) y0 y1 y2 y3)) ∧ (∀ y0 y1 y2 y3 y4, LeO (spindlelaw23_ProbSteps.j1 k y0 y1 y2 y3 y4) (spindlelaw23_ProbSteps.j1 (k + 1) y0 y1 y2 y3 y4)) ∧ (∀ y0 y1 y2 y3 y4 y5 y6 y7, LeO (spindlelaw23_ProbSteps.j2 k y0 y1 y2 y3 y4 y5 y6 y7) (spindlelaw23_ProbSteps.j2 (k + 1) y0 y1 y2 y3 y4 y5 y6 y7))
  | 0 => ⟨fun _ _ _ _ r h => by simp [spindlelaw23_ProbSteps.l0] at h, fun _ _ _ _ _ r h => by simp [spindlelaw23_ProbSteps.j1] at h, fun _ _ _ _ _ _ _ _ r h => by simp [spindlelaw23_ProbSteps.j2] at h⟩
  | k + 1 => by
    obtain ⟨ih0, ih1, ih2⟩ := spindlelaw23_ProbSteps.mono_l k
    refine ⟨?_, ?_, ?_⟩
    · intro y0 y1 y2 y3
      unfold spindlelaw23_ProbSteps.l0
      repeat' first
      | (with_reducible exact ih0 _ _ _ _)
      | (with_reducible exact ih1 _ _ _ _ _)
      | (with_reducible exact ih2 _ _ _ _ _ _ _ _)
      | (with_reducible exact spindlelaw23_alive.mono _)
      | (with_reducible exact LeO.refl _)
      | (with_reducible exact LeO.none _)
      | (with_reducible refine LeO.ite ?_ ?_)
      | (with_reducible refine LeO.bind ?_ (fun _ => ?_))
      | exact ih0 _ _ _ _
      | exact ih1 _ _ _ _ _
      | exact ih2 _ _ _ _ _ _ _ _
      | exact spindlelaw23_alive.mono _
      | exact LeO.none _
      | refine LeO.ite ?_ ?_
      | refine LeO.bind ?_ (fun _ => ?_)
    · intro y0 y1 y2 y3 y4
      unfold spindlelaw23_ProbSteps.j1
      repeat' first
      | (with_reducible exact ih0 _ _ _ _)
      | (with_reducible exact ih1 _ _ _ _ _)
      | (with_reducible exact ih2 _ _ _ _ _ _ _ _)
      | (with_reducible exact spindlelaw23_alive.mono _)
      | (with_reducible exact LeO.refl _)
      | (with_reducible exact LeO.none _)
      | (with_reducible refine LeO.ite ?_ ?_)
      | (with_reducible refine LeO.bind ?_ (fun _ => ?_))
      | exact ih0 _ _ _ _
      | exact ih1 _ _ _ _ _
      | exact ih2 _ _ _ _ _ _ _ _
      | exact spindlelaw23_alive.mono _
      | exact LeO.none _
      | refine LeO.ite ?_ ?_
      | refine LeO.bind ?_ (fun _ => ?_)
    · intro y0 y1 y2 y3 y4 y5 y6 y7
      unfold spindlelaw23_ProbSteps.j2
      repeat' first
      | (with_reducible exact ih0 _ _ _ _)
      | (with_reducible exact ih1 _ _ _ _ _)
      | (with_reducible exact ih2 _ _ _ _ _ _ _ _)
      | (with_reducible exact spindlelaw23_alive.mono _)
      | (with_reducible exact LeO.refl _)
      | (with_reducible exact LeO.none _)
      | (with_reducible refine LeO.ite ?_ ?_)
      | (with_reducible refine LeO.bind ?_ (fun _ => ?_))
      | exact ih0 _ _ _ _
      | exact ih1 _ _ _ _ _
      | exact ih2 _ _ _ _ _ _ _ _
      | exact spindlelaw23_alive.mono _
      | exact LeO.none _
      | refine LeO.ite ?_ ?_
      | refine LeO.bind ?_ (fun _ => ?_)
theorem spindlelaw23_ProbSteps.mono : ∀ a0 a1 a2 k, LeO (spindlelaw23_ProbSteps.f k a0 a1 a2) (spindlelaw23_ProbSteps.f (k + 1) a0 a1 a2) := by
  intro a0 a1 a2 k
  obtain ⟨ih0, ih1, ih2⟩ := spindlelaw23_ProbSteps.mono_l k
  unfold spindlelaw23_ProbSteps.f
  repeat' first
      | (with_reducible exact ih0 _ _ _ _)
      | (with_reducible exact ih1 _ _ _ _ _)
      | (with_reducible exact ih2 _ _ _ _ _ _ _ _)
      | (with_reducible exact spindlelaw23_alive.mono _)
      | (with_reducible exact LeO.refl _)
      | (with_reducible exact LeO.none _)
      | (with_reducible refine LeO.ite ?_ ?_)
      | (with_reducible refine LeO.bind ?_ (fun _ => ?_))
      | exact ih0 _ _ _ _
      | exact ih1 _ _ _ _ _
      | exact ih2 _ _ _ _ _ _ _ _
      | exact spindlelaw23_alive.mono _
      | exact LeO.none _
      | refine LeO.ite ?_ ?_
      | refine LeO.bind ?_ (fun _ => ?_)
set_option maxHeartbeats 8000000 in
set_option maxRecDepth 100000 in
theorem spindlelaw23_ProbSteps.calls (k : Nat) (a0_0 : Int) (a0_1 : Int) (A1 : Option Addr) (c1 : Nat) (l1 : List Int) (r : Bool) (w : World) (hr1 : Kd.C (Kd.int .u8) w A1 l1.length l1) (hc1 : l1.length ≤ c1) (h : spindlelaw23_ProbSteps.f k a0_0 a0_1 l1 = some r) :
    Calls Try.prog 7 #[.agg #[.int .u8 a0_0, .int .u8 a0_1], .slice A1 l1.length c1] w fun e w' => e = .returned (.bool r) ∧ Below w.heap.size w w' := by
  have hu30 := Try.underlying30
  have HR1 := Aside0.mk hr1
  have HC1 := Aside0.mk hc1
  clear hr1 hc1
  have HB := Aside0.mk (Below.refl w.heap.size w)
  have H : (spindlelaw23_ProbSteps.l0 k l1 0 (Int.tmod a0_0 63) (Int.tmod a0_1 2)) = some r := h
  clear h
  have H' := Aside0.mk H
  clear H
  go_enter Try.func7, Try.ntmps7
  go_wp2_with (first | ((with_reducible refine gate_dst (N := 2) rfl ?_); refine box_event ?hg (N := 2) ?hd (cs := #[.int .u8 a0_0, .int .u8 a0_1]) (t := 30) ?hr ?_; (case hd => rfl); (case hg => rfl); (case hr => first | (go_simp; done) | (go_simp; rfl)); intro gb112 hg w3 hbox hb; have n0_ := Aside0.mk (below_step (by repeat (first | (with_reducible first | exact HB.out | apply below_alloc | apply pw_below_drewN | apply below_drew1) | exact HB.out)) hb); have n1_ := Aside0.mk (hbox); have n2_ := Aside0.mk ((by rw [hg]; exact (below_size (by repeat (first | (with_reducible first | exact HB.out | apply below_alloc | apply pw_below_drewN | apply below_drew1) | exact HB.out))) : w.heap.size ≤ gb112)); have n3_ := Aside0.mk ((by rw [hg]; exact (below_size (by repeat (first | (with_reducible first | exact HB.out | apply below_alloc | apply pw_below_drewN | apply below_drew1) | exact HB.out))) : w.heap.size ≤ gb112)); clear HB; have HB := n0_; have BK112 := n1_; have GW112 := n2_; have GE112 := n3_; clear n0_ n1_ n2_ n3_; clear hb hbox hg; have hcz4_0 : w3.cell? ⟨gb112, 0, none⟩ = some (.int .u8 a0_0) := (blk_cell BK112.out 0).trans rfl; have hcz4_1 : w3.cell? ⟨gb112, 1, none⟩ = some (.int .u8 a0_1) := (blk_cell BK112.out 1).trans rfl; have hfz4_0 := blk_frozen BK112.out 0; have hfz4_1 := blk_frozen BK112.out 1))
  go_loopg [5] k (fun kq v5 w' => ∃ (x5_1 : Int) (x113000_1 : Int) (x113001_1 : Int), v5 = .int .i64 x5_1 ∧ Aside0 (spindlelaw23_ProbSteps.l0 kq l1 x5_1 x113000_1 x113001_1 = some r) ∧ Aside0 (kq ≤ k) ∧ Aside0 (w'.heap[gb112]? = some (.cells #[.int .u8 x113000_1, .int .u8 x113001_1] 30 (0, 0))) ∧ Aside0 (Below w.heap.size w w'))
  case atStart => exact ⟨(0), (Int.tmod a0_0 63), (Int.tmod a0_1 2), (by first | rfl | (simp; done) | (simp [*]; done)), H', ⟨Nat.le_refl _⟩, ⟨by (with_reducible repeat (first | refine blk_drewN ?_ _ | refine blk_drew ?_ | refine blk_alloc ?_ _)); refine blk_put (cs := #[.int .u8 (Int.tmod a0_0 63), .int .u8 a0_1]) ?_ 1 _ rfl; (with_reducible repeat (first | refine blk_drewN ?_ _ | refine blk_drew ?_ | refine blk_alloc ?_ _)); refine blk_put (cs := #[.int .u8 a0_0, .int .u8 a0_1]) ?_ 0 _ rfl; (with_reducible repeat (first | refine blk_drewN ?_ _ | refine blk_drew ?_ | refine blk_alloc ?_ _)); exact BK112.out⟩, ⟨by repeat (first | (with_reducible first | exact HB.out | apply below_alloc | apply pw_below_drewN | apply below_drew1 | refine below_set ?_ GE112.out) | exact HB.out)⟩⟩
  case round =>
    clear H'
    try clear c1
    try clear p2
    try clear hcz4_0
    try clear hcz4_1
    try clear hfz4_0
    try clear hfz4_1
    obtain ⟨x5_1, x113000_1, x113001_1, rfl, HA, HK1, BK112, HB⟩ := hrel
    cases gk with
    | zero => exact absurd HA.out (by simp [spindlelaw23_ProbSteps.l0])
    | succ k1 =>
      have H := HA.out
      clear HA
      simp only [spindlelaw23_ProbSteps.l0] at H
      have HC5 := Aside0.mk H
      clear H
      go_upto_region 3 with (fail)
      go_cut [26] (fun v26 wc => ∃ (kq : Nat) (x26_4 : Bool), v26 = .bool x26_4 ∧ Aside0 (spindlelaw23_ProbSteps.j1 kq l1 x5_1 x26_4 x113000_1 x113001_1 = some r) ∧ Aside0 (kq ≤ k1) ∧ Aside0 (wc.heap[gb112]? = some (.cells #[.int .u8 x113000_1, .int .u8 x113001_1] 30 (0, 0))) ∧ Aside0 (Below w.heap.size w wc))
      case first =>
        have H := HC5.out
        clear HC5
        by_cases c6 : x5_1 < (l1.length : Int)
        · rw [if_pos c6] at H
          have c6b0 : decide (x5_1 < (l1.length : Int)) = true := decide_eq_true c6
          clear c6
          (first | rw [c6b0] | (simp only [i64_w, i32_w]; rw [c6b0]) | skip)
          have H' := Aside0.mk H
          clear H
          go_wp2
          go_meet
          case rel => exact ⟨_, (decide (x5_1 < 300)), (by first | rfl | (simp; done) | (simp [*]; done)), H', ⟨by have := HK1.out; first | omega | exact Nat.le_refl _⟩, ⟨by (with_reducible repeat (first | refine blk_drewN ?_ _ | refine blk_drew ?_ | refine blk_alloc ?_ _)); exact BK112.out⟩, ⟨by repeat (first | (with_reducible first | exact HB.out | apply below_alloc | apply pw_below_drewN | apply below_drew1 | refine below_set ?_ GE112.out) | exact HB.out)⟩⟩
        · rw [if_neg c6] at H
          have c6b0 : decide (x5_1 < (l1.length : Int)) = false := decide_eq_false c6
          clear c6
          (first | rw [c6b0] | (simp only [i64_w, i32_w]; rw [c6b0]) | skip)
          have H' := Aside0.mk H
          clear H
          go_wp2
          go_meet
          case rel => exact ⟨_, (false), (by first | rfl | (simp; done) | (simp [*]; done)), H', ⟨by have := HK1.out; first | omega | exact Nat.le_refl _⟩, ⟨by (with_reducible repeat (first | refine blk_drewN ?_ _ | refine blk_drew ?_ | refine blk_alloc ?_ _)); exact BK112.out⟩, ⟨by repeat (first | (with_reducible first | exact HB.out | apply below_alloc | apply pw_below_drewN | apply below_drew1 | refine below_set ?_ GE112.out) | exact HB.out)⟩⟩
      case rest =>
        clear HC5
        try clear c1
        try clear p2
        try clear c6
        try clear c6b0
        try clear hcz4_0
        try clear hcz4_1
        try clear hfz4_0
        try clear hfz4_1
        try clear p2
        obtain ⟨kq, x26_4, rfl, HA, HJ4, BK112, HB⟩ := hcut
        cases kq with
        | zero => exact absurd HA.out (by simp [spindlelaw23_ProbSteps.j1])
        | succ kj4 =>
          have H := HA.out
          clear HA
          simp only [spindlelaw23_ProbSteps.j1] at H
          by_cases c7 : x26_4 = true
          · subst c7
            have H1 : (if 0 ≤ x5_1 then (if x5_1 < (l1.length : Int) then ((prob_Next.f x113000_1 x113001_1 (Int.tmod (rd l1 x5_1) 2)).bind fun bt115 => ((prob_Next.f x113000_1 ((1 - x113001_1) % 256) ((1 - (Int.tmod (rd l1 x5_1) 2)) % 256)).bind fun bt119 => (if bt115.2.2 = 0 then (if bt119.2.2 = 0 then ((prob_Check.f bt115.1 bt115.2.1).bind fun t123 => (if t123 = 0 then (spindlelaw23_ProbSteps.j2 kj4 l1 x5_1 (Int.tmod (rd l1 x5_1) 2) (!(bt119.1 == bt115.1) || (!(bt119.2.1 == ((1 - bt115.2.1) % 256)))) x113000_1 x113001_1 bt115.1 bt115.2.1) else (spindlelaw23_ProbSteps.j2 kj4 l1 x5_1 (Int.tmod (rd l1 x5_1) 2) true x113000_1 x113001_1 bt115.1 bt115.2.1))) else (spindlelaw23_ProbSteps.j2 kj4 l1 x5_1 (Int.tmod (rd l1 x5_1) 2) true x113000_1 x113001_1 bt115.1 bt115.2.1)) else (spindlelaw23_ProbSteps.j2 kj4 l1 x5_1 (Int.tmod (rd l1 x5_1) 2) true x113000_1 x113001_1 bt115.1 bt115.2.1)))) else (none)) else (none)) = some r := by rw [if_pos rfl] at H; exact H
            clear H
            have H := H1
            clear H1
            by_cases c8 : 0 ≤ x5_1
            · rw [if_pos c8] at H
              have c8b0 : decide (0 ≤ x5_1) = true := decide_eq_true c8
              clear c8
              by_cases c9 : x5_1 < (l1.length : Int)
              · rw [if_pos c9] at H
                have c9b0 : decide (x5_1 < (l1.length : Int)) = true := decide_eq_true c9
                clear c9
                replace H := Option.bind_eq_some_iff.mp H
                obtain ⟨⟨t115, t116, t117⟩, A100, H⟩ := H
                replace H : ((prob_Next.f x113000_1 ((1 - x113001_1) % 256) ((1 - (Int.tmod (rd l1 x5_1) 2)) % 256)).bind fun bt119 => (if t117 = 0 then (if bt119.2.2 = 0 then ((prob_Check.f t115 t116).bind fun t123 => (if t123 = 0 then (spindlelaw23_ProbSteps.j2 kj4 l1 x5_1 (Int.tmod (rd l1 x5_1) 2) (!(bt119.1 == t115) || (!(bt119.2.1 == ((1 - t116) % 256)))) x113000_1 x113001_1 t115 t116) else (spindlelaw23_ProbSteps.j2 kj4 l1 x5_1 (Int.tmod (rd l1 x5_1) 2) true x113000_1 x113001_1 t115 t116))) else (spindlelaw23_ProbSteps.j2 kj4 l1 x5_1 (Int.tmod (rd l1 x5_1) 2) true x113000_1 x113001_1 t115 t116)) else (spindlelaw23_ProbSteps.j2 kj4 l1 x5_1 (Int.tmod (rd l1 x5_1) 2) true x113000_1 x113001_1 t115 t116))) = some r := H
                have A10 := Aside0.mk A100
                clear A100
                replace H := Option.bind_eq_some_iff.mp H
                obtain ⟨⟨t119, t120, t121⟩, A110, H⟩ := H
                replace H : (if t117 = 0 then (if t121 = 0 then ((prob_Check.f t115 t116).bind fun t123 => (if t123 = 0 then (spindlelaw23_ProbSteps.j2 kj4 l1 x5_1 (Int.tmod (rd l1 x5_1) 2) (!(t119 == t115) || (!(t120 == ((1 - t116) % 256)))) x113000_1 x113001_1 t115 t116) else (spindlelaw23_ProbSteps.j2 kj4 l1 x5_1 (Int.tmod (rd l1 x5_1) 2) true x113000_1 x113001_1 t115 t116))) else (spindlelaw23_ProbSteps.j2 kj4 l1 x5_1 (Int.tmod (rd l1 x5_1) 2) true x113000_1 x113001_1 t115 t116)) else (spindlelaw23_ProbSteps.j2 kj4 l1 x5_1 (Int.tmod (rd l1 x5_1) 2) true x113000_1 x113001_1 t115 t116)) = some r := H
                have A11 := Aside0.mk A110
                clear A110
                have HC12 := Aside0.mk H
                clear H
                have p114 : 0 ≤ (x5_1 : Int) := of_decide_eq_true (by first | (with_reducible assumption) | assumption)
                have q114 : x5_1 < (l1.length : Int) := of_decide_eq_true (by first | (with_reducible assumption) | assumption)
                obtain ⟨ad114, e114, hx114_0⟩ := Kd.at_int HR1.out x5_1 p114 q114
                cases e114
                replace hx114_0 := (HB.out.cell (World.block_lt_of_cell? w _ hx114_0)).trans hx114_0
                replace p114 := eq_true p114
                replace q114 := eq_true q114
                have hcz13_0 : wc.cell? ⟨gb112, 0, none⟩ = some (.int .u8 x113000_1) := (blk_cell BK112.out 0).trans rfl
                have hcz13_1 : wc.cell? ⟨gb112, 1, none⟩ = some (.int .u8 x113001_1) := (blk_cell BK112.out 1).trans rfl
                have hfz13_0 := blk_frozen BK112.out 0
                have hfz13_1 := blk_frozen BK112.out 1
                go_upto_region 8 with (first | ((with_reducible refine gate_callee (f := 10) rfl ?_); refine goesL_ (some 37) rfl rfl Try.func10 (by kernel_rfl) rfl #[.agg #[.int .u8 x113000_1, .int .u8 x113001_1], .int .u8 (Int.tmod (rd l1 x5_1) 2)] rfl (by (try simp only [List.map_toArray, List.map_cons, List.map_nil]); first | done | rfl | (simp only [List.length_drop, List.length_take]; rfl)) ?_; (with_reducible refine (prob_Next.calls x113000_1 x113001_1 (Int.tmod (rd l1 x5_1) 2) t115 t116 t117 _ A10.out).mono ?_); rintro e w14 ⟨rfl, hb⟩; refine ⟨_, rfl, ?_⟩; have n0_ := Aside0.mk (blk_below (g := gb112) (o := .cells #[.int .u8 x113000_1, .int .u8 x113001_1] 30 (0, 0)) (by (with_reducible repeat (first | refine blk_drewN ?_ _ | refine blk_drew ?_ | refine blk_alloc ?_ _)); exact BK112.out) hb); have n1_ := Aside0.mk (below_step (by repeat (first | (with_reducible first | exact HB.out | apply below_alloc | apply pw_below_drewN | apply below_drew1 | refine below_set ?_ GE112.out) | exact HB.out)) hb); clear BK112; clear HB; have BK112 := n0_; have HB := n1_; clear n0_ n1_; (try clear hb); (try clear hb2); (try clear hk); (try clear hi)) | ((with_reducible refine gate_dst (N := 7) rfl ?_); refine box_event ?hg (N := 7) ?hd (cs := #[.int .u8 0, .int .u8 0]) (t := 30) ?hr ?_; (case hd => rfl); (case hg => rfl); (case hr => first | (go_simp; done) | (go_simp; rfl)); intro gb118 hg w15 hbox hb; have n0_ := Aside0.mk (blk_below (g := gb112) (o := .cells #[.int .u8 x113000_1, .int .u8 x113001_1] 30 (0, 0)) (by (with_reducible repeat (first | refine blk_drewN ?_ _ | refine blk_drew ?_ | refine blk_alloc ?_ _)); exact BK112.out) hb); have n1_ := Aside0.mk (below_step (by repeat (first | (with_reducible first | exact HB.out | apply below_alloc | apply pw_below_drewN | apply below_drew1 | refine below_set ?_ GE112.out) | exact HB.out)) hb); have n2_ := Aside0.mk (hbox); have n3_ := Aside0.mk ((by rw [hg]; exact (below_size (by repeat (first | (with_reducible first | exact HB.out | apply below_alloc | apply pw_below_drewN | apply below_drew1 | refine below_set ?_ GE112.out) | exact HB.out))) : w.heap.size ≤ gb118)); have n4_ := Aside0.mk ((by rw [hg]; exact (below_size (by repeat (first | (with_reducible first | exact HB.out | apply below_alloc | apply pw_below_drewN | apply below_drew1 | refine below_set ?_ GE112.out) | exact HB.out))) : w.heap.size ≤ gb118)); have n5_ := Aside0.mk ((by rw [hg]; exact Nat.ne_of_lt (blk_lt (g := gb112) (o := .cells #[.int .u8 x113000_1, .int .u8 x113001_1] 30 (0, 0)) (by (with_reducible repeat (first | refine blk_drewN ?_ _ | refine blk_drew ?_ | refine blk_alloc ?_ _)); exact BK112.out)) : gb112 ≠ gb118)); have n6_ := Aside0.mk ((by rw [hg]; exact Nat.ne_of_gt (blk_lt (g := gb112) (o := .cells #[.int .u8 x113000_1, .int .u8 x113001_1] 30 (0, 0)) (by (with_reducible repeat (first | refine blk_drewN ?_ _ | refine blk_drew ?_ | refine blk_alloc ?_ _)); exact BK112.out)) : gb118 ≠ gb112)); clear BK112; clear HB; have BK112 := n0_; have HB := n1_; have BK118 := n2_; have GW118 := n3_; have GE118 := n4_; have NB112_118 := n5_; have NB118_112 := n6_; clear n0_ n1_ n2_ n3_ n4_ n5_ n6_; clear hb hbox hg; have hnb16 := NB118_112.out; have hnc16 := NB112_118.out; have hcz17_0 : w15.cell? ⟨gb118, 0, none⟩ = some (.int .u8 0) := (blk_cell BK118.out 0).trans rfl; have hcz17_1 : w15.cell? ⟨gb118, 1, none⟩ = some (.int .u8 0) := (blk_cell BK118.out 1).trans rfl; have hfz17_0 := blk_frozen BK118.out 0; have hfz17_1 := blk_frozen BK118.out 1; have hcz18_0 : w15.cell? ⟨gb112, 0, none⟩ = some (.int .u8 x113000_1) := (blk_cell BK112.out 0).trans rfl; have hcz18_1 : w15.cell? ⟨gb112, 1, none⟩ = some (.int .u8 x113001_1) := (blk_cell BK112.out 1).trans rfl; have hfz18_0 := blk_frozen BK112.out 0; have hfz18_1 := blk_frozen BK112.out 1) | ((with_reducible refine gate_callee (f := 10) rfl ?_); refine goesL_ (some 49) rfl rfl Try.func10 (by kernel_rfl) rfl #[.agg #[.int .u8 x113000_1, .int .u8 ((1 - x113001_1) % 256)], .int .u8 ((1 - (Int.tmod (rd l1 x5_1) 2)) % 256)] rfl (by (try simp only [List.map_toArray, List.map_cons, List.map_nil]); first | done | rfl | (simp only [List.length_drop, List.length_take]; rfl)) ?_; (with_reducible refine (prob_Next.calls x113000_1 ((1 - x113001_1) % 256) ((1 - (Int.tmod (rd l1 x5_1) 2)) % 256) t119 t120 t121 _ A11.out).mono ?_); rintro e w19 ⟨rfl, hb⟩; refine ⟨_, rfl, ?_⟩; have n0_ := Aside0.mk (blk_below (g := gb112) (o := .cells #[.int .u8 x113000_1, .int .u8 x113001_1] 30 (0, 0)) (by (with_reducible repeat (first | refine blk_drewN ?_ _ | refine blk_drew ?_ | refine blk_alloc ?_ _)); refine blk_far ?_ NB112_118.out _; (with_reducible repeat (first | refine blk_drewN ?_ _ | refine blk_drew ?_ | refine blk_alloc ?_ _)); refine blk_far ?_ NB112_118.out _; (with_reducible repeat (first | refine blk_drewN ?_ _ | refine blk_drew ?_ | refine blk_alloc ?_ _)); exact BK112.out) hb); have n1_ := Aside0.mk (blk_below (g := gb118) (o := .cells #[.int .u8 t115, .int .u8 t116] 30 (0, 0)) (by (with_reducible repeat (first | refine blk_drewN ?_ _ | refine blk_drew ?_ | refine blk_alloc ?_ _)); refine blk_put (cs := #[.int .u8 t115, .int .u8 0]) ?_ 1 _ rfl; (with_reducible repeat (first | refine blk_drewN ?_ _ | refine blk_drew ?_ | refine blk_alloc ?_ _)); refine blk_put (cs := #[.int .u8 0, .int .u8 0]) ?_ 0 _ rfl; (with_reducible repeat (first | refine blk_drewN ?_ _ | refine blk_drew ?_ | refine blk_alloc ?_ _)); exact BK118.out) hb); have n2_ := Aside0.mk (below_step (by repeat (first | (with_reducible first | exact HB.out | apply below_alloc | apply pw_below_drewN | apply below_drew1 | refine below_set ?_ GE112.out | refine below_set ?_ GE118.out) | exact HB.out)) hb); clear BK112; clear BK118; clear HB; have BK112 := n0_; have BK118 := n1_; have HB := n2_; clear n0_ n1_ n2_; (try clear hb); (try clear hb2); (try clear hk); (try clear hi)) | ((with_reducible refine gate_dst (N := 9) rfl ?_); refine box_event ?hg (N := 9) ?hd (cs := #[.int .u8 0, .int .u8 0]) (t := 30) ?hr ?_; (case hd => rfl); (case hg => rfl); (case hr => first | (go_simp; done) | (go_simp; rfl)); intro gb122 hg w20 hbox hb; have n0_ := Aside0.mk (blk_below (g := gb112) (o := .cells #[.int .u8 x113000_1, .int .u8 x113001_1] 30 (0, 0)) (by (with_reducible repeat (first | refine blk_drewN ?_ _ | refine blk_drew ?_ | refine blk_alloc ?_ _)); exact BK112.out) hb); have n1_ := Aside0.mk (blk_below (g := gb118) (o := .cells #[.int .u8 t115, .int .u8 t116] 30 (0, 0)) (by (with_reducible repeat (first | refine blk_drewN ?_ _ | refine blk_drew ?_ | refine blk_alloc ?_ _)); exact BK118.out) hb); have n2_ := Aside0.mk (below_step (by repeat (first | (with_reducible first | exact HB.out | apply below_alloc | apply pw_below_drewN | apply below_drew1 | refine below_set ?_ GE112.out | refine below_set ?_ GE118.out) | exact HB.out)) hb); have n3_ := Aside0.mk (hbox); have n4_ := Aside0.mk ((by rw [hg]; exact (below_size (by repeat (first | (with_reducible first | exact HB.out | apply below_alloc | apply pw_below_drewN | apply below_drew1 | refine below_set ?_ GE112.out | refine below_set ?_ GE118.out) | exact HB.out))) : w.heap.size ≤ gb122)); have n5_ := Aside0.mk ((by rw [hg]; exact (below_size (by repeat (first | (with_reducible first | exact HB.out | apply below_alloc | apply pw_below_drewN | apply below_drew1 | refine below_set ?_ GE112.out | refine below_set ?_ GE118.out) | exact HB.out))) : w.heap.size ≤ gb122)); have n6_ := Aside0.mk ((by rw [hg]; exact Nat.ne_of_lt (blk_lt (g := gb112) (o := .cells #[.int .u8 x113000_1, .int .u8 x113001_1] 30 (0, 0)) (by (with_reducible repeat (first | refine blk_drewN ?_ _ | refine blk_drew ?_ | refine blk_alloc ?_ _)); exact BK112.out)) : gb112 ≠ gb122)); have n7_ := Aside0.mk ((by rw [hg]; exact Nat.ne_of_gt (blk_lt (g := gb112) (o := .cells #[.int .u8 x113000_1, .int .u8 x113001_1] 30 (0, 0)) (by (with_reducible repeat (first | refine blk_drewN ?_ _ | refine blk_drew ?_ | refine blk_alloc ?_ _)); exact BK112.out)) : gb122 ≠ gb112)); have n8_ := Aside0.mk ((by rw [hg]; exact Nat.ne_of_lt (blk_lt (g := gb118) (o := .cells #[.int .u8 t115, .int .u8 t116] 30 (0, 0)) (by (with_reducible repeat (first | refine blk_drewN ?_ _ | refine blk_drew ?_ | refine blk_alloc ?_ _)); exact BK118.out)) : gb118 ≠ gb122)); have n9_ := Aside0.mk ((by rw [hg]; exact Nat.ne_of_gt (blk_lt (g := gb118) (o := .cells #[.int .u8 t115, .int .u8 t116] 30 (0, 0)) (by (with_reducible repeat (first | refine blk_drewN ?_ _ | refine blk_drew ?_ | refine blk_alloc ?_ _)); exact BK118.out)) : gb122 ≠ gb118)); clear BK112; clear BK118; clear HB; have BK112 := n0_; have BK118 := n1_; have HB := n2_; have BK122 := n3_; have GW122 := n4_; have GE122 := n5_; have NB112_122 := n6_; have NB122_112 := n7_; have NB118_122 := n8_; have NB122_118 := n9_; clear n0_ n1_ n2_ n3_ n4_ n5_ n6_ n7_ n8_ n9_; clear hb hbox hg; have hnb21 := NB122_112.out; have hnc21 := NB112_122.out; have hnb22 := NB122_118.out; have hnc22 := NB118_122.out; have hcz23_0 : w20.cell? ⟨gb122, 0, none⟩ = some (.int .u8 0) := (blk_cell BK122.out 0).trans rfl; have hcz23_1 : w20.cell? ⟨gb122, 1, none⟩ = some (.int .u8 0) := (blk_cell BK122.out 1).trans rfl; have hfz23_0 := blk_frozen BK122.out 0; have hfz23_1 := blk_frozen BK122.out 1))
                (try simp only [Act.put, List.setIfInBounds_toArray, List.set_cons_zero, List.set_cons_succ])
                go_cut [72] (fun v72 wc => ∃ (kq : Nat) (x72_11 : Bool), v72 = .bool x72_11 ∧ Aside0 (spindlelaw23_ProbSteps.j2 kq l1 x5_1 (Int.tmod (rd l1 x5_1) 2) x72_11 x113000_1 x113001_1 t115 t116 = some r) ∧ Aside0 (kq ≤ kj4) ∧ Aside0 (wc.heap[gb112]? = some (.cells #[.int .u8 x113000_1, .int .u8 x113001_1] 30 (0, 0))) ∧ Aside0 (wc.heap[gb118]? = some (.cells #[.int .u8 t115, .int .u8 t116] 30 (0, 0))) ∧ Aside0 (wc.heap[gb122]? = some (.cells #[.int .u8 t119, .int .u8 t120] 30 (0, 0))) ∧ Aside0 (Below w.heap.size w wc))
                case first =>
                  have H := HC12.out
                  clear HC12
                  by_cases c24 : t117 = 0
                  · rw [if_pos c24] at H
                    have c24b0 : (t117 == 0) = true := beq_iff_eq.mpr c24
                    have c24b1 : (t117 != 0) = false := bne_eq_false_iff_eq.mpr c24
                    clear c24
                    (first | rw [c24b0] | (simp only [i64_w, i32_w]; rw [c24b0]) | skip)
                    by_cases c25 : t121 = 0
                    · rw [if_pos c25] at H
                      have c25b0 : (t121 == 0) = true := beq_iff_eq.mpr c25
                      have c25b1 : (t121 != 0) = false := bne_eq_false_iff_eq.mpr c25
                      clear c25
                      replace H := Option.bind_eq_some_iff.mp H
                      obtain ⟨t123, A260, H⟩ := H
                      replace H : (if t123 = 0 then (spindlelaw23_ProbSteps.j2 kj4 l1 x5_1 (Int.tmod (rd l1 x5_1) 2) (!(t119 == t115) || (!(t120 == ((1 - t116) % 256)))) x113000_1 x113001_1 t115 t116) else (spindlelaw23_ProbSteps.j2 kj4 l1 x5_1 (Int.tmod (rd l1 x5_1) 2) true x113000_1 x113001_1 t115 t116)) = some r := H
                      have A26 := Aside0.mk A260
                      clear A260
                      by_cases c27 : t123 = 0
                      · rw [if_pos c27] at H
                        have c27b0 : (t123 == 0) = true := beq_iff_eq.mpr c27
                        have c27b1 : (t123 != 0) = false := bne_eq_false_iff_eq.mpr c27
                        clear c27
                        have H' := Aside0.mk H
                        clear H
                        have hnb28 := NB118_112.out
                        have hnc28 := NB112_118.out
                        have hnb29 := NB118_122.out
                        have hnc29 := NB122_118.out
                        have hcz30_0 : w20.cell? ⟨gb118, 0, none⟩ = some (.int .u8 t115) := (blk_cell BK118.out 0).trans rfl
                        have hcz30_1 : w20.cell? ⟨gb118, 1, none⟩ = some (.int .u8 t116) := (blk_cell BK118.out 1).trans rfl
                        have hfz30_0 := blk_frozen BK118.out 0
                        have hfz30_1 := blk_frozen BK118.out 1
                        go_wp2_with (first | (go_at_call 11; (with_reducible refine (prob_Check.calls t115 t116 t123 _ A26.out).mono ?_); rintro e w31 ⟨rfl, hb⟩; have n0_ := Aside0.mk (blk_below (g := gb112) (o := .cells #[.int .u8 x113000_1, .int .u8 x113001_1] 30 (0, 0)) (by (with_reducible repeat (first | refine blk_drewN ?_ _ | refine blk_drew ?_ | refine blk_alloc ?_ _)); refine blk_far ?_ NB112_122.out _; (with_reducible repeat (first | refine blk_drewN ?_ _ | refine blk_drew ?_ | refine blk_alloc ?_ _)); refine blk_far ?_ NB112_122.out _; (with_reducible repeat (first | refine blk_drewN ?_ _ | refine blk_drew ?_ | refine blk_alloc ?_ _)); exact BK112.out) hb); have n1_ := Aside0.mk (blk_below (g := gb118) (o := .cells #[.int .u8 t115, .int .u8 t116] 30 (0, 0)) (by (with_reducible repeat (first | refine blk_drewN ?_ _ | refine blk_drew ?_ | refine blk_alloc ?_ _)); refine blk_far ?_ NB118_122.out _; (with_reducible repeat (first | refine blk_drewN ?_ _ | refine blk_drew ?_ | refine blk_alloc ?_ _)); refine blk_far ?_ NB118_122.out _; (with_reducible repeat (first | refine blk_drewN ?_ _ | refine blk_drew ?_ | refine blk_alloc ?_ _)); exact BK118.out) hb); have n2_ := Aside0.mk (blk_below (g := gb122) (o := .cells #[.int .u8 t119, .int .u8 t120] 30 (0, 0)) (by (with_reducible repeat (first | refine blk_drewN ?_ _ | refine blk_drew ?_ | refine blk_alloc ?_ _)); refine blk_put (cs := #[.int .u8 t119, .int .u8 0]) ?_ 1 _ rfl; (with_reducible repeat (first | refine blk_drewN ?_ _ | refine blk_drew ?_ | refine blk_alloc ?_ _)); refine blk_put (cs := #[.int .u8 0, .int .u8 0]) ?_ 0 _ rfl; (with_reducible repeat (first | refine blk_drewN ?_ _ | refine blk_drew ?_ | refine blk_alloc ?_ _)); exact BK122.out) hb); have n3_ := Aside0.mk (below_step (by repeat (first | (with_reducible first | exact HB.out | apply below_alloc | apply pw_below_drewN | apply below_drew1 | refine below_set ?_ GE112.out | refine below_set ?_ GE118.out | refine below_set ?_ GE122.out) | exact HB.out)) hb); clear BK112; clear BK118; clear BK122; clear HB; have BK112 := n0_; have BK118 := n1_; have BK122 := n2_; have HB := n3_; clear n0_ n1_ n2_ n3_; (try clear hb); (try clear hb2); (try clear hk); (try clear hi); have hnb32 := NB122_112.out; have hnc32 := NB112_122.out; have hcz33_0 : w31.cell? ⟨gb122, 0, none⟩ = some (.int .u8 t119) := (blk_cell BK122.out 0).trans rfl; have hcz33_1 : w31.cell? ⟨gb122, 1, none⟩ = some (.int .u8 t120) := (blk_cell BK122.out 1).trans rfl; have hfz33_0 := blk_frozen BK122.out 0; have hfz33_1 := blk_frozen BK122.out 1; have hcz34_0 : w31.cell? ⟨gb118, 0, none⟩ = some (.int .u8 t115) := (blk_cell BK118.out 0).trans rfl; have hcz34_1 : w31.cell? ⟨gb118, 1, none⟩ = some (.int .u8 t116) := (blk_cell BK118.out 1).trans rfl; have hfz34_0 := blk_frozen BK118.out 0; have hfz34_1 := blk_frozen BK118.out 1))
                        go_meet
                        case rel => exact ⟨_, ((!(t119 == t115) || (!(t120 == ((1 - t116) % 256))))), (by first | rfl | (simp; done) | (simp [*]; done)), H', ⟨by have := HK1.out; have := HJ4.out; first | omega | exact Nat.le_refl _⟩, ⟨by (with_reducible repeat (first | refine blk_drewN ?_ _ | refine blk_drew ?_ | refine blk_alloc ?_ _)); exact BK112.out⟩, ⟨by (with_reducible repeat (first | refine blk_drewN ?_ _ | refine blk_drew ?_ | refine blk_alloc ?_ _)); exact BK118.out⟩, ⟨by (with_reducible repeat (first | refine blk_drewN ?_ _ | refine blk_drew ?_ | refine blk_alloc ?_ _)); exact BK122.out⟩, ⟨by repeat (first | (with_reducible first | exact HB.out | apply below_alloc | apply pw_below_drewN | apply below_drew1 | refine below_set ?_ GE112.out | refine below_set ?_ GE118.out | refine below_set ?_ GE122.out) | exact HB.out)⟩⟩
                      · rw [if_neg c27] at H
                        have c27b0 : (t123 == 0) = false := beq_eq_false_iff_ne.mpr c27
                        have c27b1 : (t123 != 0) = true := bne_iff_ne.mpr c27
                        have H' := Aside0.mk H
                        clear H
                        have hnb35 := NB118_112.out
                        have hnc35 := NB112_118.out
                        have hnb36 := NB118_122.out
                        have hnc36 := NB122_118.out
                        have hcz37_0 : w20.cell? ⟨gb118, 0, none⟩ = some (.int .u8 t115) := (blk_cell BK118.out 0).trans rfl
                        have hcz37_1 : w20.cell? ⟨gb118, 1, none⟩ = some (.int .u8 t116) := (blk_cell BK118.out 1).trans rfl
                        have hfz37_0 := blk_frozen BK118.out 0
                        have hfz37_1 := blk_frozen BK118.out 1
                        go_wp2_with (first | (go_at_call 11; (with_reducible refine (prob_Check.calls t115 t116 t123 _ A26.out).mono ?_); rintro e w38 ⟨rfl, hb⟩; have n0_ := Aside0.mk (blk_below (g := gb112) (o := .cells #[.int .u8 x113000_1, .int .u8 x113001_1] 30 (0, 0)) (by (with_reducible repeat (first | refine blk_drewN ?_ _ | refine blk_drew ?_ | refine blk_alloc ?_ _)); refine blk_far ?_ NB112_122.out _; (with_reducible repeat (first | refine blk_drewN ?_ _ | refine blk_drew ?_ | refine blk_alloc ?_ _)); refine blk_far ?_ NB112_122.out _; (with_reducible repeat (first | refine blk_drewN ?_ _ | refine blk_drew ?_ | refine blk_alloc ?_ _)); exact BK112.out) hb); have n1_ := Aside0.mk (blk_below (g := gb118) (o := .cells #[.int .u8 t115, .int .u8 t116] 30 (0, 0)) (by (with_reducible repeat (first | refine blk_drewN ?_ _ | refine blk_drew ?_ | refine blk_alloc ?_ _)); refine blk_far ?_ NB118_122.out _; (with_reducible repeat (first | refine blk_drewN ?_ _ | refine blk_drew ?_ | refine blk_alloc ?_ _)); refine blk_far ?_ NB118_122.out _; (with_reducible repeat (first | refine blk_drewN ?_ _ | refine blk_drew ?_ | refine blk_alloc ?_ _)); exact BK118.out) hb); have n2_ := Aside0.mk (blk_below (g := gb122) (o := .cells #[.int .u8 t119, .int .u8 t120] 30 (0, 0)) (by (with_reducible repeat (first | refine blk_drewN ?_ _ | refine blk_drew ?_ | refine blk_alloc ?_ _)); refine blk_put (cs := #[.int .u8 t119, .int .u8 0]) ?_ 1 _ rfl; (with_reducible repeat (first | refine blk_drewN ?_ _ | refine blk_drew ?_ | refine blk_alloc ?_ _)); refine blk_put (cs := #[.int .u8 0, .int .u8 0]) ?_ 0 _ rfl; (with_reducible repeat (first | refine blk_drewN ?_ _ | refine blk_drew ?_ | refine blk_alloc ?_ _)); exact BK122.out) hb); have n3_ := Aside0.mk (below_step (by repeat (first | (with_reducible first | exact HB.out | apply below_alloc | apply pw_below_drewN | apply below_drew1 | refine below_set ?_ GE112.out | refine below_set ?_ GE118.out | refine below_set ?_ GE122.out) | exact HB.out)) hb); clear BK112; clear BK118; clear BK122; clear HB; have BK112 := n0_; have BK118 := n1_; have BK122 := n2_; have HB := n3_; clear n0_ n1_ n2_ n3_; (try clear hb); (try clear hb2); (try clear hk); (try clear hi)))
                        go_meet
                        case rel => exact ⟨_, (true), (by first | rfl | (simp; done) | (simp [*]; done)), H', ⟨by have := HK1.out; have := HJ4.out; first | omega | exact Nat.le_refl _⟩, ⟨by (with_reducible repeat (first | refine blk_drewN ?_ _ | refine blk_drew ?_ | refine blk_alloc ?_ _)); exact BK112.out⟩, ⟨by (with_reducible repeat (first | refine blk_drewN ?_ _ | refine blk_drew ?_ | refine blk_alloc ?_ _)); exact BK118.out⟩, ⟨by (with_reducible repeat (first | refine blk_drewN ?_ _ | refine blk_drew ?_ | refine blk_alloc ?_ _)); exact BK122.out⟩, ⟨by repeat (first | (with_reducible first | exact HB.out | apply below_alloc | apply pw_below_drewN | apply below_drew1 | refine below_set ?_ GE112.out | refine below_set ?_ GE118.out | refine below_set ?_ GE122.out) | exact HB.out)⟩⟩
                    · rw [if_neg c25] at H
                      have c25b0 : (t121 == 0) = false := beq_eq_false_iff_ne.mpr c25
                      have c25b1 : (t121 != 0) = true := bne_iff_ne.mpr c25
                      have H' := Aside0.mk H
                      clear H
                      go_wp2
                      go_meet
                      case rel => exact ⟨_, (true), (by first | rfl | (simp; done) | (simp [*]; done)), H', ⟨by have := HK1.out; have := HJ4.out; first | omega | exact Nat.le_refl _⟩, ⟨by (with_reducible repeat (first | refine blk_drewN ?_ _ | refine blk_drew ?_ | refine blk_alloc ?_ _)); refine blk_far ?_ NB112_122.out _; (with_reducible repeat (first | refine blk_drewN ?_ _ | refine blk_drew ?_ | refine blk_alloc ?_ _)); refine blk_far ?_ NB112_122.out _; (with_reducible repeat (first | refine blk_drewN ?_ _ | refine blk_drew ?_ | refine blk_alloc ?_ _)); exact BK112.out⟩, ⟨by (with_reducible repeat (first | refine blk_drewN ?_ _ | refine blk_drew ?_ | refine blk_alloc ?_ _)); refine blk_far ?_ NB118_122.out _; (with_reducible repeat (first | refine blk_drewN ?_ _ | refine blk_drew ?_ | refine blk_alloc ?_ _)); refine blk_far ?_ NB118_122.out _; (with_reducible repeat (first | refine blk_drewN ?_ _ | refine blk_drew ?_ | refine blk_alloc ?_ _)); exact BK118.out⟩, ⟨by (with_reducible repeat (first | refine blk_drewN ?_ _ | refine blk_drew ?_ | refine blk_alloc ?_ _)); refine blk_put (cs := #[.int .u8 t119, .int .u8 0]) ?_ 1 _ rfl; (with_reducible repeat (first | refine blk_drewN ?_ _ | refine blk_drew ?_ | refine blk_alloc ?_ _)); refine blk_put (cs := #[.int .u8 0, .int .u8 0]) ?_ 0 _ rfl; (with_reducible repeat (first | refine blk_drewN ?_ _ | refine blk_drew ?_ | refine blk_alloc ?_ _)); exact BK122.out⟩, ⟨by repeat (first | (with_reducible first | exact HB.out | apply below_alloc | apply pw_below_drewN | apply below_drew1 | refine below_set ?_ GE112.out | refine below_set ?_ GE118.out | refine below_set ?_ GE122.out) | exact HB.out)⟩⟩
                  · rw [if_neg c24] at H
                    have c24b0 : (t117 == 0) = false := beq_eq_false_iff_ne.mpr c24
                    have c24b1 : (t117 != 0) = true := bne_iff_ne.mpr c24
                    (first | rw [c24b0] | (simp only [i64_w, i32_w]; rw [c24b0]) | skip)
                    have H' := Aside0.mk H
                    clear H
                    go_wp2
                    go_meet
                    case rel => exact ⟨_, (true), (by first | rfl | (simp; done) | (simp [*]; done)), H', ⟨by have := HK1.out; have := HJ4.out; first | omega | exact Nat.le_refl _⟩, ⟨by (with_reducible repeat (first | refine blk_drewN ?_ _ | refine blk_drew ?_ | refine blk_alloc ?_ _)); refine blk_far ?_ NB112_122.out _; (with_reducible repeat (first | refine blk_drewN ?_ _ | refine blk_drew ?_ | refine blk_alloc ?_ _)); refine blk_far ?_ NB112_122.out _; (with_reducible repeat (first | refine blk_drewN ?_ _ | refine blk_drew ?_ | refine blk_alloc ?_ _)); exact BK112.out⟩, ⟨by (with_reducible repeat (first | refine blk_drewN ?_ _ | refine blk_drew ?_ | refine blk_alloc ?_ _)); refine blk_far ?_ NB118_122.out _; (with_reducible repeat (first | refine blk_drewN ?_ _ | refine blk_drew ?_ | refine blk_alloc ?_ _)); refine blk_far ?_ NB118_122.out _; (with_reducible repeat (first | refine blk_drewN ?_ _ | refine blk_drew ?_ | refine blk_alloc ?_ _)); exact BK118.out⟩, ⟨by (with_reducible repeat (first | refine blk_drewN ?_ _ | refine blk_drew ?_ | refine blk_alloc ?_ _)); refine blk_put (cs := #[.int .u8 t119, .int .u8 0]) ?_ 1 _ rfl; (with_reducible repeat (first | refine blk_drewN ?_ _ | refine blk_drew ?_ | refine blk_alloc ?_ _)); refine blk_put (cs := #[.int .u8 0, .int .u8 0]) ?_ 0 _ rfl; (with_reducible repeat (first | refine blk_drewN ?_ _ | refine blk_drew ?_ | refine blk_alloc ?_ _)); exact BK122.out⟩, ⟨by repeat (first | (with_reducible first | exact HB.out | apply below_alloc | apply pw_below_drewN | apply below_drew1 | refine below_set ?_ GE112.out | refine below_set ?_ GE118.out | refine below_set ?_ GE122.out) | exact HB.out)⟩⟩
                case rest =>
                  clear HC12
                  try clear c1
                  try clear p1
                  try clear q1
                  try clear hx1
                  try clear c2
                  try clear p2
                  try clear c3
                  try clear c6
                  try clear c6b0
                  try clear c7
                  try clear c8
                  try clear c8b0
                  try clear c9
                  try clear c9b0
                  try clear c10
                  try clear p11
                  try clear q11
                  try clear hx11
                  try clear c16
                  try clear c21
                  try clear c22
                  try clear c24
                  try clear c24b0
                  try clear c24b1
                  try clear c25
                  try clear c25b0
                  try clear c25b1
                  try clear c27
                  try clear c27b0
                  try clear c27b1
                  try clear c28
                  try clear c29
                  try clear c32
                  try clear c35
                  try clear c36
                  try clear hcz13_0
                  try clear hcz13_1
                  try clear hcz17_0
                  try clear hcz17_1
                  try clear hcz18_0
                  try clear hcz18_1
                  try clear hcz23_0
                  try clear hcz23_1
                  try clear hcz30_0
                  try clear hcz30_1
                  try clear hcz33_0
                  try clear hcz33_1
                  try clear hcz34_0
                  try clear hcz34_1
                  try clear hcz37_0
                  try clear hcz37_1
                  try clear hcz4_0
                  try clear hcz4_1
                  try clear hfz13_0
                  try clear hfz13_1
                  try clear hfz17_0
                  try clear hfz17_1
                  try clear hfz18_0
                  try clear hfz18_1
                  try clear hfz23_0
                  try clear hfz23_1
                  try clear hfz30_0
                  try clear hfz30_1
                  try clear hfz33_0
                  try clear hfz33_1
                  try clear hfz34_0
                  try clear hfz34_1
                  try clear hfz37_0
                  try clear hfz37_1
                  try clear hfz4_0
                  try clear hfz4_1
                  try clear hx114_0
                  try clear p114
                  try clear p2
                  try clear q114
                  obtain ⟨kq, x72_11, rfl, HA, HJ11, BK112, BK118, BK122, HB⟩ := hcut
                  cases kq with
                  | zero => exact absurd HA.out (by simp [spindlelaw23_ProbSteps.j2])
                  | succ kj11 =>
                    have H := HA.out
                    clear HA
                    simp only [spindlelaw23_ProbSteps.j2] at H
                    by_cases c39 : x72_11 = true
                    · subst c39
                      have H1 : (some false) = some r := by rw [if_pos rfl] at H; exact H
                      clear H
                      have H := H1
                      clear H1
                      obtain rfl := Option.some.inj H
                      go_wp2
                      go_ret
                      exact ⟨by first | rfl | (simp [errW_none, errW_some] <;> rfl) | (simp [*, errW_none, errW_some] <;> rfl), by repeat (first | (with_reducible first | exact HB.out | apply below_alloc | apply pw_below_drewN | apply below_drew1 | refine below_set ?_ GE112.out | refine below_set ?_ GE118.out | refine below_set ?_ GE122.out) | exact HB.out)⟩
                    · replace c39 := Bool.eq_false_iff.mpr c39
                      subst c39
                      have H1 : (if (Int.tmod (rd l1 x5_1) 2) = x113001_1 then (if t115 < x113000_1 then (some false) else (if t116 = x113001_1 then (spindlelaw23_ProbSteps.l0 kj11 l1 (wrap64 (x5_1 + 1)) t115 t116) else (some false))) else (if t115 ≥ x113000_1 then (if t115 > 0 then (some false) else (spindlelaw23_ProbSteps.l0 kj11 l1 (wrap64 (x5_1 + 1)) t115 t116)) else (spindlelaw23_ProbSteps.l0 kj11 l1 (wrap64 (x5_1 + 1)) t115 t116))) = some r := by rw [if_neg (show ¬ (false = true) by decide)] at H; exact H
                      clear H
                      have H := H1
                      clear H1
                      by_cases c40 : (Int.tmod (rd l1 x5_1) 2) = x113001_1
                      · rw [if_pos c40] at H
                        have c40b0 : ((Int.tmod (rd l1 x5_1) 2) == x113001_1) = true := beq_iff_eq.mpr c40
                        have c40b1 : ((Int.tmod (rd l1 x5_1) 2) != x113001_1) = false := bne_eq_false_iff_eq.mpr c40
                        clear c40
                        by_cases c41 : t115 < x113000_1
                        · rw [if_pos c41] at H
                          have c41b0 : decide (t115 < x113000_1) = true := decide_eq_true c41
                          clear c41
                          obtain rfl := Option.some.inj H
                          have hnb42 := NB112_118.out
                          have hnc42 := NB118_112.out
                          have hnb43 := NB112_122.out
                          have hnc43 := NB122_112.out
                          have hcz44_0 : wc.cell? ⟨gb112, 0, none⟩ = some (.int .u8 x113000_1) := (blk_cell BK112.out 0).trans rfl
                          have hcz44_1 : wc.cell? ⟨gb112, 1, none⟩ = some (.int .u8 x113001_1) := (blk_cell BK112.out 1).trans rfl
                          have hfz44_0 := blk_frozen BK112.out 0
                          have hfz44_1 := blk_frozen BK112.out 1
                          have hnb45 := NB118_122.out
                          have hnc45 := NB122_118.out
                          have hcz46_0 : wc.cell? ⟨gb118, 0, none⟩ = some (.int .u8 t115) := (blk_cell BK118.out 0).trans rfl
                          have hcz46_1 : wc.cell? ⟨gb118, 1, none⟩ = some (.int .u8 t116) := (blk_cell BK118.out 1).trans rfl
                          have hfz46_0 := blk_frozen BK118.out 0
                          have hfz46_1 := blk_frozen BK118.out 1
                          go_wp2
                          go_ret
                          exact ⟨by first | rfl | (simp [errW_none, errW_some] <;> rfl) | (simp [*, errW_none, errW_some] <;> rfl), by repeat (first | (with_reducible first | exact HB.out | apply below_alloc | apply pw_below_drewN | apply below_drew1 | refine below_set ?_ GE112.out | refine below_set ?_ GE118.out | refine below_set ?_ GE122.out) | exact HB.out)⟩
                        · rw [if_neg c41] at H
                          have c41b0 : decide (t115 < x113000_1) = false := decide_eq_false c41
                          clear c41
                          by_cases c47 : t116 = x113001_1
                          · rw [if_pos c47] at H
                            have c47b0 : (t116 == x113001_1) = true := beq_iff_eq.mpr c47
                            have c47b1 : (t116 != x113001_1) = false := bne_eq_false_iff_eq.mpr c47
                            clear c47
                            have H' := Aside0.mk H
                            clear H
                            have hnb48 := NB112_118.out
                            have hnc48 := NB118_112.out
                            have hnb49 := NB112_122.out
                            have hnc49 := NB122_112.out
                            have hcz50_0 : wc.cell? ⟨gb112, 0, none⟩ = some (.int .u8 x113000_1) := (blk_cell BK112.out 0).trans rfl
                            have hcz50_1 : wc.cell? ⟨gb112, 1, none⟩ = some (.int .u8 x113001_1) := (blk_cell BK112.out 1).trans rfl
                            have hfz50_0 := blk_frozen BK112.out 0
                            have hfz50_1 := blk_frozen BK112.out 1
                            have hnb51 := NB118_122.out
                            have hnc51 := NB122_118.out
                            have hcz52_0 : wc.cell? ⟨gb118, 0, none⟩ = some (.int .u8 t115) := (blk_cell BK118.out 0).trans rfl
                            have hcz52_1 : wc.cell? ⟨gb118, 1, none⟩ = some (.int .u8 t116) := (blk_cell BK118.out 1).trans rfl
                            have hfz52_0 := blk_frozen BK118.out 0
                            have hfz52_1 := blk_frozen BK118.out 1
                            go_wp2
                            go_roundg kj11
                            case measure => have := HK1.out; have := HJ4.out; have := HJ11.out; omega
                            case rel => exact ⟨(wrap64 (x5_1 + 1)), (t115), (t116), (by first | rfl | (simp; done) | (simp [*]; done)), H', ⟨by have := HK1.out; have := HJ4.out; have := HJ11.out; omega⟩, ⟨by (with_reducible repeat (first | refine blk_drewN ?_ _ | refine blk_drew ?_ | refine blk_alloc ?_ _)); refine blk_put (cs := #[.int .u8 t115, .int .u8 x113001_1]) ?_ 1 _ rfl; (with_reducible repeat (first | refine blk_drewN ?_ _ | refine blk_drew ?_ | refine blk_alloc ?_ _)); refine blk_put (cs := #[.int .u8 x113000_1, .int .u8 x113001_1]) ?_ 0 _ rfl; (with_reducible repeat (first | refine blk_drewN ?_ _ | refine blk_drew ?_ | refine blk_alloc ?_ _)); exact BK112.out⟩, ⟨by repeat (first | (with_reducible first | exact HB.out | apply below_alloc | apply pw_below_drewN | apply below_drew1 | refine below_set ?_ GE112.out | refine below_set ?_ GE118.out | refine below_set ?_ GE122.out) | exact HB.out)⟩⟩
                          · rw [if_neg c47] at H
                            have c47b0 : (t116 == x113001_1) = false := beq_eq_false_iff_ne.mpr c47
                            have c47b1 : (t116 != x113001_1) = true := bne_iff_ne.mpr c47
                            obtain rfl := Option.some.inj H
                            have hnb53 := NB112_118.out
                            have hnc53 := NB118_112.out
                            have hnb54 := NB112_122.out
                            have hnc54 := NB122_112.out
                            have hcz55_0 : wc.cell? ⟨gb112, 0, none⟩ = some (.int .u8 x113000_1) := (blk_cell BK112.out 0).trans rfl
                            have hcz55_1 : wc.cell? ⟨gb112, 1, none⟩ = some (.int .u8 x113001_1) := (blk_cell BK112.out 1).trans rfl
                            have hfz55_0 := blk_frozen BK112.out 0
                            have hfz55_1 := blk_frozen BK112.out 1
                            have hnb56 := NB118_122.out
                            have hnc56 := NB122_118.out
                            have hcz57_0 : wc.cell? ⟨gb118, 0, none⟩ = some (.int .u8 t115) := (blk_cell BK118.out 0).trans rfl
                            have hcz57_1 : wc.cell? ⟨gb118, 1, none⟩ = some (.int .u8 t116) := (blk_cell BK118.out 1).trans rfl
                            have hfz57_0 := blk_frozen BK118.out 0
                            have hfz57_1 := blk_frozen BK118.out 1
                            go_wp2
                            go_ret
                            exact ⟨by first | rfl | (simp [errW_none, errW_some] <;> rfl) | (simp [*, errW_none, errW_some] <;> rfl), by repeat (first | (with_reducible first | exact HB.out | apply below_alloc | apply pw_below_drewN | apply below_drew1 | refine below_set ?_ GE112.out | refine below_set ?_ GE118.out | refine below_set ?_ GE122.out) | exact HB.out)⟩
                      · rw [if_neg c40] at H
                        have c40b0 : ((Int.tmod (rd l1 x5_1) 2) == x113001_1) = false := beq_eq_false_iff_ne.mpr c40
                        have c40b1 : ((Int.tmod (rd l1 x5_1) 2) != x113001_1) = true := bne_iff_ne.mpr c40
                        by_cases c58 : t115 ≥ x113000_1
                        · rw [if_pos c58] at H
                          have c58b0 : decide (x113000_1 ≤ t115) = true := decide_eq_true c58
                          clear c58
                          by_cases c59 : t115 > 0
                          · rw [if_pos c59] at H
                            have c59b0 : decide (0 < t115) = true := decide_eq_true c59
                            clear c59
                            obtain rfl := Option.some.inj H
                            have hnb60 := NB112_118.out
                            have hnc60 := NB118_112.out
                            have hnb61 := NB112_122.out
                            have hnc61 := NB122_112.out
                            have hcz62_0 : wc.cell? ⟨gb112, 0, none⟩ = some (.int .u8 x113000_1) := (blk_cell BK112.out 0).trans rfl
                            have hcz62_1 : wc.cell? ⟨gb112, 1, none⟩ = some (.int .u8 x113001_1) := (blk_cell BK112.out 1).trans rfl
                            have hfz62_0 := blk_frozen BK112.out 0
                            have hfz62_1 := blk_frozen BK112.out 1
                            have hnb63 := NB118_122.out
                            have hnc63 := NB122_118.out
                            have hcz64_0 : wc.cell? ⟨gb118, 0, none⟩ = some (.int .u8 t115) := (blk_cell BK118.out 0).trans rfl
                            have hcz64_1 : wc.cell? ⟨gb118, 1, none⟩ = some (.int .u8 t116) := (blk_cell BK118.out 1).trans rfl
                            have hfz64_0 := blk_frozen BK118.out 0
                            have hfz64_1 := blk_frozen BK118.out 1
                            go_wp2
                            go_ret
                            exact ⟨by first | rfl | (simp [errW_none, errW_some] <;> rfl) | (simp [*, errW_none, errW_some] <;> rfl), by repeat (first | (with_reducible first | exact HB.out | apply below_alloc | apply pw_below_drewN | apply below_drew1 | refine below_set ?_ GE112.out | refine below_set ?_ GE118.out | refine below_set ?_ GE122.out) | exact HB.out)⟩
                          · rw [if_neg c59] at H
                            have c59b0 : decide (0 < t115) = false := decide_eq_false c59
                            clear c59
                            have H' := Aside0.mk H
                            clear H
                            have hnb65 := NB112_118.out
                            have hnc65 := NB118_112.out
                            have hnb66 := NB112_122.out
                            have hnc66 := NB122_112.out
                            have hcz67_0 : wc.cell? ⟨gb112, 0, none⟩ = some (.int .u8 x113000_1) := (blk_cell BK112.out 0).trans rfl
                            have hcz67_1 : wc.cell? ⟨gb112, 1, none⟩ = some (.int .u8 x113001_1) := (blk_cell BK112.out 1).trans rfl
                            have hfz67_0 := blk_frozen BK112.out 0
                            have hfz67_1 := blk_frozen BK112.out 1
                            have hnb68 := NB118_122.out
                            have hnc68 := NB122_118.out
                            have hcz69_0 : wc.cell? ⟨gb118, 0, none⟩ = some (.int .u8 t115) := (blk_cell BK118.out 0).trans rfl
                            have hcz69_1 : wc.cell? ⟨gb118, 1, none⟩ = some (.int .u8 t116) := (blk_cell BK118.out 1).trans rfl
                            have hfz69_0 := blk_frozen BK118.out 0
                            have hfz69_1 := blk_frozen BK118.out 1
                            go_wp2
                            go_roundg kj11
                            case measure => have := HK1.out; have := HJ4.out; have := HJ11.out; omega
                            case rel => exact ⟨(wrap64 (x5_1 + 1)), (t115), (t116), (by first | rfl | (simp; done) | (simp [*]; done)), H', ⟨by have := HK1.out; have := HJ4.out; have := HJ11.out; omega⟩, ⟨by (with_reducible repeat (first | refine blk_drewN ?_ _ | refine blk_drew ?_ | refine blk_alloc ?_ _)); refine blk_put (cs := #[.int .u8 t115, .int .u8 x113001_1]) ?_ 1 _ rfl; (with_reducible repeat (first | refine blk_drewN ?_ _ | refine blk_drew ?_ | refine blk_alloc ?_ _)); refine blk_put (cs := #[.int .u8 x113000_1, .int .u8 x113001_1]) ?_ 0 _ rfl; (with_reducible repeat (first | refine blk_drewN ?_ _ | refine blk_drew ?_ | refine blk_alloc ?_ _)); exact BK112.out⟩, ⟨by repeat (first | (with_reducible first | exact HB.out | apply below_alloc | apply pw_below_drewN | apply below_drew1 | refine below_set ?_ GE112.out | refine below_set ?_ GE118.out | refine below_set ?_ GE122.out) | exact HB.out)⟩⟩
                        · rw [if_neg c58] at H
                          have c58b0 : decide (x113000_1 ≤ t115) = false := decide_eq_false c58
                          clear c58
                          have H' := Aside0.mk H
                          clear H
                          have hnb70 := NB112_118.out
                          have hnc70 := NB118_112.out
                          have hnb71 := NB112_122.out
                          have hnc71 := NB122_112.out
                          have hcz72_0 : wc.cell? ⟨gb112, 0, none⟩ = some (.int .u8 x113000_1) := (blk_cell BK112.out 0).trans rfl
                          have hcz72_1 : wc.cell? ⟨gb112, 1, none⟩ = some (.int .u8 x113001_1) := (blk_cell BK112.out 1).trans rfl
                          have hfz72_0 := blk_frozen BK112.out 0
                          have hfz72_1 := blk_frozen BK112.out 1
                          have hnb73 := NB118_122.out
                          have hnc73 := NB122_118.out
                          have hcz74_0 : wc.cell? ⟨gb118, 0, none⟩ = some (.int .u8 t115) := (blk_cell BK118.out 0).trans rfl
                          have hcz74_1 : wc.cell? ⟨gb118, 1, none⟩ = some (.int .u8 t116) := (blk_cell BK118.out 1).trans rfl
                          have hfz74_0 := blk_frozen BK118.out 0
                          have hfz74_1 := blk_frozen BK118.out 1
                          go_wp2
                          go_roundg kj11
                          case measure => have := HK1.out; have := HJ4.out; have := HJ11.out; omega
                          case rel => exact ⟨(wrap64 (x5_1 + 1)), (t115), (t116), (by first | rfl | (simp; done) | (simp [*]; done)), H', ⟨by have := HK1.out; have := HJ4.out; have := HJ11.out; omega⟩, ⟨by (with_reducible repeat (first | refine blk_drewN ?_ _ | refine blk_drew ?_ | refine blk_alloc ?_ _)); refine blk_put (cs := #[.int .u8 t115, .int .u8 x113001_1]) ?_ 1 _ rfl; (with_reducible repeat (first | refine blk_drewN ?_ _ | refine blk_drew ?_ | refine blk_alloc ?_ _)); refine blk_put (cs := #[.int .u8 x113000_1, .int .u8 x113001_1]) ?_ 0 _ rfl; (with_reducible repeat (first | refine blk_drewN ?_ _ | refine blk_drew ?_ | refine blk_alloc ?_ _)); exact BK112.out⟩, ⟨by repeat (first | (with_reducible first | exact HB.out | apply below_alloc | apply pw_below_drewN | apply below_drew1 | refine below_set ?_ GE112.out | refine below_set ?_ GE118.out | refine below_set ?_ GE122.out) | exact HB.out)⟩⟩
              · rw [if_neg c9] at H
                exact absurd H (by simp)
            · rw [if_neg c8] at H
              exact absurd H (by simp)
          · replace c7 := Bool.eq_false_iff.mpr c7
            subst c7
            have H1 : ((spindlelaw23_alive.f kj4).bind fun t113 => (some t113)) = some r := by rw [if_neg (show ¬ (false = true) by decide)] at H; exact H
            clear H
            have H := H1
            clear H1
            replace H := Option.bind_eq_some_iff.mp H
            obtain ⟨t113, A750, H⟩ := H
            replace H : (some t113) = some r := H
            have A75 := Aside0.mk A750
            clear A750
            obtain rfl := Option.some.inj H
            go_wp2_with (first | ((with_reducible refine gate_callee (f := 12) rfl ?_); refine goesL_ (some 110) rfl rfl Try.func12 (by kernel_rfl) rfl #[] rfl (by (try simp only [List.map_toArray, List.map_cons, List.map_nil]); first | done | rfl | (simp only [List.length_drop, List.length_take]; rfl)) ?_; (with_reducible refine (spindlelaw23_alive.calls kj4  t113 _ A75.out).mono ?_); rintro e w76 ⟨rfl, hb⟩; refine ⟨_, rfl, ?_⟩; have n0_ := Aside0.mk (blk_below (g := gb112) (o := .cells #[.int .u8 x113000_1, .int .u8 x113001_1] 30 (0, 0)) (by (with_reducible repeat (first | refine blk_drewN ?_ _ | refine blk_drew ?_ | refine blk_alloc ?_ _)); exact BK112.out) hb); have n1_ := Aside0.mk (below_step (by repeat (first | (with_reducible first | exact HB.out | apply below_alloc | apply pw_below_drewN | apply below_drew1 | refine below_set ?_ GE112.out) | exact HB.out)) hb); clear BK112; clear HB; have BK112 := n0_; have HB := n1_; clear n0_ n1_; (try clear hb); (try clear hb2); (try clear hk); (try clear hi)))
            go_ret
            exact ⟨by first | rfl | (simp [errW_none, errW_some] <;> rfl) | (simp [*, errW_none, errW_some] <;> rfl), by repeat (first | (with_reducible first | exact HB.out | apply below_alloc | apply pw_below_drewN | apply below_drew1 | refine below_set ?_ GE112.out) | exact HB.out)⟩

end Go.Proofs.Ytlfnhbbgpifidaa.PProbSteps
