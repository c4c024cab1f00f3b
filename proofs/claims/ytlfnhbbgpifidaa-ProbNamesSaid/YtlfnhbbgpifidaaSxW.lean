/- Closed walks, by computation: an operation. -/
import Derived.Test.YtlfnhbbgpifidaaSxV
namespace Go.Proofs.Ytlfnhbbgpifidaa.Sx
set_option linter.unusedVariables false
set_option linter.unusedSimpArgs false
open Go.RowKit

def Is (s : St) (v : V) (h : List Blk) : Prop := s.2.2 ∧ s.1 = v ∧ s.2.1 = h

theorem okB_is {b : Bool} {x v : V} {m h' : List Blk} {s : St} (e : okB b x m = some (v, h')) (hs : b = true → Is s x m) : Is s v h' := by
  obtain ⟨h1, rfl, rfl⟩ := okB_some e
  exact hs h1
theorem some_is {x v : V} {m h' : List Blk} {s : St} (e : some (x, m) = some (v, h')) (hs : Is s x m) : Is s v h' := by
  simp only [Option.some.injEq, Prod.mk.injEq] at e
  obtain ⟨rfl, rfl⟩ := e
  exact hs

theorem sc_ok {cx : Cx} {op : Op} {T : List V} {h : List Blk} {v : V} {h' : List Blk} (e : sc cx op T h = some (v, h')) : Is (sx cx op T h) v h' := by
  have hec : ec cx T = eo cx T := funext (ec_eq cx T)
  cases op with
  | move x => simp only [sc, hec] at e; exact some_is e ⟨trivial, rfl, rfl⟩
  | assign x => simp only [sc, hec] at e; exact some_is e ⟨trivial, rfl, rfl⟩
  | pick c x y =>
    simp only [sc, hec, sx] at e ⊢
    generalize eo cx T c = cv at e ⊢
    generalize eo cx T x = xv at e ⊢
    generalize eo cx T y = yv at e ⊢
    split at e
    · refine some_is e ?_; cases xv <;> cases yv <;> exact ⟨trivial, rfl, rfl⟩
    · refine some_is e ?_; cases xv <;> cases yv <;> exact ⟨trivial, rfl, rfl⟩
    · cases e
  | alloc t =>
    simp only [sc, sx] at e ⊢
    split at e
    · rename_i z hz; rw [hz]; exact some_is e ⟨trivial, rfl, rfl⟩
    · cases e
  | box t x =>
    simp only [sc, hec, sx] at e ⊢
    exact okB_is e fun hb => ⟨hb, rfl, rfl⟩
  | load t x =>
    simp only [sc, hec, sx, cellsR_eq, nthR_eq] at e ⊢
    generalize eo cx T x = xv at e ⊢
    generalize ti cx.P t = tv at e ⊢
    split at e
    · refine okB_is e fun hb => ⟨?_, rfl, rfl⟩
      simp only [Bool.and_eq_true, Nat.blt_eq, Nat.ble_eq] at hb
      exact hb
    · refine okB_is e fun hb => ⟨?_, rfl, rfl⟩
      simp only [Nat.blt_eq] at hb
      exact hb
    · refine okB_is e fun hb => ⟨?_, rfl, rfl⟩
      simp only [Nat.ble_eq] at hb
      exact hb
    · refine okB_is e fun hb => ⟨?_, rfl, rfl⟩
      simp only [Nat.blt_eq] at hb
      exact hb
    · cases e
  | store t x y =>
    simp only [sc, hec, sx, cellsR_eq, nthB_eq] at e ⊢
    generalize eo cx T x = xv at e ⊢
    generalize eo cx T y = yv at e ⊢
    generalize ti cx.P t = tv at e ⊢
    split at e
    · refine okB_is e fun hb => ⟨?_, rfl, rfl⟩
      simp only [Bool.and_eq_true, Nat.blt_eq, Nat.ble_eq, Nat.beq_eq] at hb
      obtain ⟨⟨⟨⟨h1, h2⟩, h3⟩, h4⟩, h5⟩ := hb
      exact ⟨h1, h2, h3, h4, h5⟩
    · cases e
  | fieldAddr s x f =>
    simp only [sc, hec, sx] at e ⊢
    generalize eo cx T x = xv at e ⊢
    generalize fo cx.P s f = tv at e ⊢
    split at e
    · exact some_is e ⟨trivial, rfl, rfl⟩
    · exact some_is e ⟨trivial, rfl, rfl⟩
    · cases e
  | field t x f =>
    simp only [sc, hec, sx, nthR_eq] at e ⊢
    generalize eo cx T x = xv at e ⊢
    generalize fo cx.P t f = tv at e ⊢
    split at e
    · rename_i l fof ft
      simp only [sxField]
      generalize ti cx.P ft = tv at e ⊢
      split at e
      · exact some_is e ⟨⟨trivial, trivial⟩, rfl, rfl⟩
      · refine okB_is e fun hb => ⟨⟨trivial, ?_⟩, rfl, rfl⟩
        simpa only [Nat.blt_eq] using hb
      · cases e
    · cases e
  | index t x y =>
    simp only [sc, hec, sx, nthR_eq] at e ⊢
    generalize eo cx T x = xv at e ⊢
    generalize eo cx T y = yv at e ⊢
    generalize el cx.P t = tv at e ⊢
    split at e
    · rename_i l k i len et
      simp only [sxIndex]
      generalize ti cx.P et = tv at e ⊢
      split at e
      · refine okB_is e fun hb => ⟨⟨⟨Int.natCast_nonneg i, ?_⟩, trivial⟩, rfl, rfl⟩
        simp only [Nat.blt_eq] at hb
        exact Int.ofNat_lt.2 hb
      · refine okB_is e fun hb => ?_
        simp only [Bool.and_eq_true, Nat.blt_eq] at hb
        exact ⟨⟨⟨Int.natCast_nonneg i, Int.ofNat_lt.2 hb.1⟩, hb.2⟩, rfl, rfl⟩
      · cases e
    · rename_i s k i
      refine okB_is e fun hb => ?_
      simp only [Nat.blt_eq] at hb
      exact ⟨⟨Int.natCast_nonneg i, Int.ofNat_lt.2 hb⟩, rfl, rfl⟩
    · cases e
  | indexAddr t x y =>
    simp only [sc, hec, sx, nthR_eq] at e ⊢
    generalize eo cx T x = xv at e ⊢
    generalize eo cx T y = yv at e ⊢
    generalize el cx.P t = tv at e ⊢
    split at e
    · rename_i b off k i len et
      simp only [sxIndexAddr]
      generalize ti cx.P et = tv at e ⊢
      split at e
      · refine okB_is e fun hb => ⟨⟨by simp, Int.natCast_nonneg i, ?_⟩, rfl, rfl⟩
        simp only [Nat.blt_eq] at hb
        exact Int.ofNat_lt.2 hb
      · cases e
    · rename_i cs k i len et
      simp only [sxIndexAddr]
      generalize ti cx.P et = tv at e ⊢
      split at e
      · refine okB_is e fun hb => ⟨⟨by simp, Int.natCast_nonneg i, ?_⟩, rfl, rfl⟩
        simp only [Nat.blt_eq] at hb
        exact Int.ofNat_lt.2 hb
      · cases e
    · rename_i sz b off len k i et
      simp only [sxIndexAddr]
      generalize ti cx.P et = tv at e ⊢
      split at e
      · refine okB_is e fun hb => ?_
        simp only [Bool.and_eq_true, Nat.blt_eq, Nat.beq_eq] at hb
        exact ⟨⟨by simp, hb.1, Int.natCast_nonneg i, Int.ofNat_lt.2 hb.2⟩, rfl, rfl⟩
      · cases e
    · rename_i sz l tok k i et
      simp only [sxIndexAddr]
      generalize ti cx.P et = tv at e ⊢
      split at e
      · refine okB_is e fun hb => ?_
        simp only [Bool.and_eq_true, Nat.blt_eq, Nat.beq_eq] at hb
        exact ⟨⟨by simp, hb.1, Int.natCast_nonneg i, Int.ofNat_lt.2 hb.2⟩, rfl, rfl⟩
      · cases e
    · cases e
  | nilCheck x =>
    simp only [sc, hec, sx] at e ⊢
    exact okB_is e fun hb => ⟨hb, rfl, rfl⟩
  | binOp op t x y yt =>
    simp only [sc, hec, sx] at e ⊢
    generalize eo cx T x = xv at e ⊢
    generalize eo cx T y = yv at e ⊢
    split at e
    · rename_i k i k' j
      simp only [sxBin]
      split at e
      · exact okB_is e fun hb => ⟨(of_decide_eq_true hb : (0 : Int) ≤ j), rfl, rfl⟩
      · exact okB_is e fun hb => ⟨(of_decide_eq_true hb : (0 : Int) ≤ j), rfl, rfl⟩
      · refine okB_is e fun hb => ?_
        simp only [Bool.and_eq_true, Bool.not_eq_true', decide_eq_true_eq, decide_eq_false_iff_not] at hb
        exact ⟨hb, rfl, rfl⟩
      · refine okB_is e fun hb => ?_
        simp only [Bool.and_eq_true, Bool.not_eq_true', decide_eq_true_eq, decide_eq_false_iff_not] at hb
        exact ⟨hb, rfl, rfl⟩
      · rename_i h1 h2 h3 h4
        refine okB_is e fun hb => ?_
        have hb := of_decide_eq_true hb
        cases op <;> first | exact ⟨⟨hb, trivial⟩, rfl, rfl⟩ | exact absurd rfl h1 | exact absurd rfl h2 | exact absurd rfl h3 | exact absurd rfl h4
    · rename_i i j
      simp only [sxBin]
      split at e
      · exact okB_is e fun hb => ⟨hb, rfl, rfl⟩
      · exact okB_is e fun hb => ⟨hb, rfl, rfl⟩
      · cases e
    · rename_i i j
      simp only [sxBin]
      split at e
      · exact some_is e ⟨trivial, rfl, rfl⟩
      · exact some_is e ⟨trivial, rfl, rfl⟩
      · exact okB_is e fun hb => ⟨Nat.le_of_ble_eq_true hb, rfl, rfl⟩
      · cases e
    · rename_i l l'
      simp only [sxBin]
      split at e
      · rename_i ks hk
        rw [hk]
        split at e
        · rename_i b hb
          have hb : eqL l l' (some ks) = some b := hb
          rw [hb]
          exact some_is e ⟨trivial, rfl, rfl⟩
        · rename_i b hb
          have hb : eqL l l' (some ks) = some b := hb
          rw [hb]
          exact some_is e ⟨trivial, rfl, rfl⟩
        · cases e
      · cases e
    · rename_i h1 h2 h3 h4
      have hs : sxBin cx h op t xv yv = sxNil h (cx.P.underlying t) op (nilEq xv.isNil yv.isNil) := by
        unfold sxBin
        split
        · exact absurd rfl (h1 _ _ _ _ rfl)
        · exact absurd rfl (h2 _ _ rfl)
        · exact absurd rfl (h3 _ _ rfl)
        · exact absurd rfl (h4 _ _ rfl)
        · rfl
      rw [hs]
      split at e
      · rename_i i j hi hj
        rw [hi, hj]
        refine okB_is e fun hb => ?_
        simp only [Bool.and_eq_true, Bool.or_eq_true] at hb
        exact ⟨hb, rfl, rfl⟩
      · rename_i i j hi hj
        rw [hi, hj]
        refine okB_is e fun hb => ?_
        simp only [Bool.and_eq_true, Bool.or_eq_true] at hb
        exact ⟨hb, rfl, rfl⟩
      · cases e
  | unOp o t x =>
    cases o with
    | not =>
      simp only [sc, hec, sx] at e ⊢
      generalize eo cx T x = xv at e ⊢
      split at e
      · exact some_is e ⟨trivial, rfl, rfl⟩
      · cases e
    | neg =>
      simp only [sc, hec, sx] at e ⊢
      generalize eo cx T x = xv at e ⊢
      split at e
      · exact some_is e ⟨trivial, rfl, rfl⟩
      · cases e
    | _ => cases e
  | extract x n =>
    simp only [sc, hec, sx, nthR_eq] at e ⊢
    generalize eo cx T x = xv at e ⊢
    split at e
    · exact okB_is e fun hb => ⟨Nat.le_of_ble_eq_true hb, rfl, rfl⟩
    · cases e
  | makeFunc f xs ys => simp only [sc, hec] at e; exact some_is e ⟨trivial, rfl, rfl⟩
  | makeInterface t x =>
    simp only [sc, hec, sx] at e ⊢
    refine okB_is e fun hb => ⟨?_, rfl, rfl⟩
    simpa only [Bool.not_eq_true'] using hb
  | convert s d x =>
    simp only [sc, hec, sx] at e ⊢
    generalize eo cx T x = xv at e ⊢
    generalize intT (cx.P.underlying d) = tv at e ⊢
    split at e
    · rename_i hs
      exact some_is e ⟨⟨by rw [hs]; simp, trivial⟩, rfl, rfl⟩
    · cases e
  | build t ps =>
    simp only [sc, hec, sx] at e ⊢
    split at e
    · rename_i l hl
      rw [hl]
      exact okB_is e fun hb => ⟨⟨hb, trivial⟩, rfl, rfl⟩
    · cases e
  | buildSlice t n ps =>
    simp only [sc, hec, sx] at e ⊢
    generalize el cx.P t = tv at e ⊢
    generalize datL (ps.toList.map fun p => eo cx T p.2) = dv at e ⊢
    split at e
    · refine okB_is e fun hb => ?_
      simp only [Bool.and_eq_true, Nat.beq_eq, Nat.ble_eq] at hb
      obtain ⟨⟨⟨⟨h1, h2⟩, h3⟩, h4⟩, h5⟩ := hb
      exact ⟨⟨h1, h2, by simpa using h3, h4, h5⟩, rfl, rfl⟩
    · cases e
  | call c =>
    obtain ⟨cal, ⟨al⟩, ⟨tl⟩⟩ := c
    cases cal with
    | value f => cases e
    | invoke r m => cases e
    | builtin b =>
      cases b <;> first | (cases e; done) | skip
      · match al, tl with
        | [s, x], [t, t'] =>
          simp only [sc, hec, sx, sxCall, nthB_eq] at e ⊢
          generalize eo cx T s = sv at e ⊢
          generalize eo cx T x = xv at e ⊢
          generalize el cx.P t = tv at e ⊢
          generalize el cx.P t' = tv' at e ⊢
          split at e
          · refine okB_is e fun hb => ?_
            simp only [Bool.and_eq_true, Nat.beq_eq, Nat.ble_eq] at hb
            exact ⟨⟨hb.1.1, hb.1.2, hb.2⟩, rfl, rfl⟩
          · refine okB_is e fun hb => ?_
            simp only [Bool.and_eq_true, Nat.beq_eq, Nat.ble_eq, decide_eq_true_eq] at hb
            obtain ⟨⟨⟨⟨⟨⟨h1, h2⟩, h3⟩, h4⟩, h5⟩, h6⟩, h7⟩ := hb
            exact ⟨⟨h1, h2, h3, h4, h5, h6, h7⟩, rfl, rfl⟩
          · cases e
        | [], _ => cases e
        | [_], _ => cases e
        | _ :: _ :: _ :: _, _ => cases e
        | [_, _], [] => cases e
        | [_, _], [_] => cases e
        | [_, _], _ :: _ :: _ :: _ => cases e
      · match al, tl with
        | [x], [t] =>
          simp only [sc, hec, sx, sxCall] at e ⊢
          generalize eo cx T x = xv at e ⊢
          generalize el cx.P t = tv at e ⊢
          split at e <;> first | exact some_is e ⟨trivial, rfl, rfl⟩ | cases e
        | [], _ => cases e
        | _ :: _ :: _, _ => cases e
        | [_], [] => cases e
        | [_], _ :: _ :: _ => cases e
      · match al with
        | [x, y] =>
          simp only [sc, hec, sx, sxCall] at e ⊢
          generalize eo cx T x = xv at e ⊢
          generalize eo cx T y = yv at e ⊢
          split at e
          · rename_i k i k' j
            split at e
            · rename_i hl
              refine some_is e ⟨trivial, ?_, rfl⟩
              simp only [sxMax]
              rw [if_pos (of_decide_eq_true hl)]
            · rename_i hl
              refine some_is e ⟨trivial, ?_, rfl⟩
              simp only [sxMax]
              rw [if_neg (of_decide_eq_false hl)]
          · cases e
        | [] => cases e
        | [_] => cases e
        | _ :: _ :: _ :: _ => cases e
      · match al with
        | [x, y] =>
          simp only [sc, hec, sx, sxCall] at e ⊢
          generalize eo cx T x = xv at e ⊢
          generalize eo cx T y = yv at e ⊢
          split at e
          · rename_i k i k' j
            split at e
            · rename_i hl
              refine some_is e ⟨trivial, ?_, rfl⟩
              simp only [sxMin]
              rw [if_pos (of_decide_eq_true hl)]
            · rename_i hl
              refine some_is e ⟨trivial, ?_, rfl⟩
              simp only [sxMin]
              rw [if_neg (of_decide_eq_false hl)]
          · cases e
        | [] => cases e
        | [_] => cases e
        | _ :: _ :: _ :: _ => cases e
  | _ => cases e
end Go.Proofs.Ytlfnhbbgpifidaa.Sx
