/- From a call on abstract values to the world: what lay there before lies there still. -/
import Derived.Test.YtlfnhbbgpifidaaSxY
namespace Go.Proofs.Ytlfnhbbgpifidaa.Sx
set_option linter.unusedVariables false
set_option linter.unusedSimpArgs false
open Go.RowKit

/-- A call that begins with nothing but cells that never change. -/
theorem ACalls.below {cx : Cx} {f : FuncId} {args : List V} {K : KV} (hc : ACalls cx f args [] K (fun _ _ => False)) (S : Frz) {w : World} (hS : ∀ ad u, S ad = some u → w.cell? ad = some u)
    (hG : GOk cx ⟨S, fun _ => none, fun _ => 0⟩) {vs : Array Value} (hl : args.length = vs.size) (hr : ∀ (i : Nat) x u, args[i]? = some x → vs[i]? = some u → R ⟨S, fun _ => none, fun _ => 0⟩ x u) :
    Calls cx.P f vs w fun e w' => (∃ g v u h, e = .returned u ∧ R g v u ∧ K v h) ∧ Below w.heap.size w w' := by
  refine (hc.2 ⟨S, fun _ => none, fun _ => 0⟩ w vs hG hl hr ?_).mono ?_
  · exact { frz := hS, ent := by simp, lt := by simp, inj := by simp, size := Nat.le_refl _, block := fun _ _ _ => rfl, os := rfl, tape := rfl, output := rfl, mine := by simp, new := fun ad u h => .inl h }
  · rintro e w' ⟨g', v, u, h', _, hR, hH, ⟨rfl, hK⟩ | ⟨_, hf⟩⟩
    · refine ⟨⟨g', v, u, h', rfl, hR, hK⟩, ⟨hH.os, hH.tape, hH.output, hH.size, fun k hk => hH.block k hk ?_⟩⟩
      rintro ⟨b, x, hx, _⟩
      simp at hx
    · exact hf.elim

/-- A closed call that says that it is so. -/
theorem below_T {cx : Cx} {f : FuncId} (hc : ∀ K Kp : KV, (∀ h, K (.bool true) h) → ACalls cx f [] [] K Kp) (hG : ∀ i, cx.G i = []) (w : World) :
    Calls cx.P f #[] w fun e w' => e = .returned (.bool true) ∧ Below w.heap.size w w' := by
  refine ((hc (fun v _ => v = .bool true) (fun _ _ => False) (fun _ => rfl)).below (fun _ => none) (w := w) (by simp) ?_ rfl (by simp)).mono ?_
  · intro i j y hy; rw [hG i] at hy; simp at hy
  · rintro e w' ⟨⟨g, v, u, h, rfl, hR, rfl⟩, hb⟩
    exact ⟨by rw [hR.bool_inv], hb⟩
end Go.Proofs.Ytlfnhbbgpifidaa.Sx
