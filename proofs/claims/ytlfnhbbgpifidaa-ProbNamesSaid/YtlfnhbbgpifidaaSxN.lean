/- A state seen otherwise in the middle of a walk; loops. -/
import Derived.Test.YtlfnhbbgpifidaaSxM
namespace Go.Proofs.Ytlfnhbbgpifidaa.Sx
set_option linter.unusedVariables false
set_option linter.unusedSimpArgs false
open Go.RowKit

/-- A state seen as another, the first n blocks of the memory under their own numbers. -/
def Seen (n : Nat) (T : List V) (h : List Blk) (T' : List V) (h' : List Blk) : Prop :=
  ∃ ρ : Nat → Option Nat, subL ρ T' T ∧ Sees ρ h h' ∧ (∀ i ∈ idsL T', i < h'.length) ∧ (∀ b, b < n → ρ b = some b) ∧ n ≤ h'.length

theorem Here.seen {cx n g w0 own df T h T' h' a w} (hs : Seen n T h T' h') (hh : Here cx g w0 own df T h a w) : ∃ g', Gh.leN n g g' ∧ Here cx g' w0 own df T' h' a w := by
  obtain ⟨ρ, hT, hsee, hids, hn, hle⟩ := hs
  obtain ⟨_, hG, hTr, hH, hd⟩ := hh
  obtain ⟨k1, k2⟩ := subL_R (g := g) (n := h'.length) T' T a.tmps.toList hT hids (by simpa using hTr.1) (fun i x u hx hu => hTr.2 i x u hx (by simpa using hu))
  refine ⟨g.view ρ h'.length, ⟨fun _ _ h => h, fun b c hb hc => ?_⟩, rfl, fun i j y hy => hG i j y hy, ⟨by simpa using k1, fun i x u hx hu => k2 i x u hx (by simpa using hu)⟩, hH.view hsee, hd⟩
  have hlt : b < h'.length := by omega
  simp [Gh.view, hlt, hn b hb, hc]

theorem aw_view {cx : Cx} {c : Code} {Q : Po} {T : List V} {h : List Blk} {T' : List V} {h' : List Blk} (hs : Seen Q.n T h T' h') (hv : AW cx c Q T' h') : AW cx c Q T h := by
  intro g w0 own df a w hh
  obtain ⟨g', hle, hh'⟩ := hh.seen hs
  refine wp_mono (hv g' w0 own df a w hh') ?_
  intro e a w he
  cases e with
  | normal => exact Then.mono hle (fun _ _ h => h) he
  | exit i => exact Then.mono hle (fun _ _ h => h) he
  | ret => exact Then.mono hle (fun _ _ h => h) he
  | panic ch => exact ThenP.mono hle (fun _ _ _ h => h) he
  | goto l => exact he
  | outgrown => exact he

theorem exists_min (P : Nat → Prop) : ∀ n, P n → ∃ m, P m ∧ ∀ k, P k → m ≤ k := by
  intro n
  induction n using Nat.strongRecOn with
  | _ n ih =>
    intro hn
    by_cases h : ∃ k, k < n ∧ P k
    · obtain ⟨k, hk, hp⟩ := h; exact ih k hk hp
    · exact ⟨n, hn, fun k hk => Nat.le_of_not_lt fun hlt => h ⟨k, hlt, hk⟩⟩

/-- A LOOP: at each round's head the state is seen as one of a family; each round lowers a measure. -/
theorem aw_loop {cx : Cx} {c : Code} {Q : Po} {T : List V} {h : List Blk} {α : Type} (st : α → List V) (hp : α → List Blk) (μ : α → Nat) (x0 : α) (h0 : Seen Q.n T h (st x0) (hp x0))
    (round : ∀ x, AW cx c { Q with nx := fun T h => ∃ y, μ y < μ x ∧ Seen Q.n T h (st y) (hp y) } (st x) (hp x)) : AW cx (.loop c) Q T h := by
  intro g w0 own df a w hh
  obtain ⟨g1, hle1, hh1⟩ := hh.seen h0
  let S : Act → World → Nat → Prop := fun a w m => ∃ g' x, Gh.leN Q.n g g' ∧ Here cx g' w0 own df (st x) (hp x) a w ∧ μ x = m
  let M : Act → World → Nat := fun a w => by
    classical
    exact if hm : ∃ m, S a w m then Classical.choose (exists_min (S a w) _ (Classical.choose_spec hm)) else 0
  have hM : ∀ a w, (∃ m, S a w m) → S a w (M a w) ∧ ∀ k, S a w k → M a w ≤ k := by
    intro a w hm
    have : M a w = Classical.choose (exists_min (S a w) _ (Classical.choose_spec hm)) := dif_pos hm
    rw [this]
    exact Classical.choose_spec (exists_min (S a w) _ (Classical.choose_spec hm))
  refine wp_loop (fun a w => ∃ m, S a w m) M ⟨_, g1, x0, hle1, hh1, rfl⟩ ?_
  intro a w hm
  obtain ⟨⟨g', x, hle, hx, hμ⟩, _⟩ := hM a w hm
  refine wp_mono (round x g' w0 own df a w hx) ?_
  intro e a1 w1 he
  cases e with
  | normal =>
    obtain ⟨g2, T2, h2, hle2, ⟨y, hy, hseen⟩, hh2⟩ := he
    obtain ⟨g3, hle3, hh3⟩ := hh2.seen hseen
    have hS : S a1 w1 (μ y) := ⟨g3, y, (hle.trans hle2).trans hle3, hh3, rfl⟩
    have := (hM a1 w1 ⟨_, hS⟩).2 _ hS
    exact ⟨⟨_, hS⟩, by omega⟩
  | exit i => exact Then.mono hle (fun _ _ h => h) he
  | ret => exact Then.mono hle (fun _ _ h => h) he
  | panic ch => exact ThenP.mono hle (fun _ _ _ h => h) he
  | goto l => exact he
  | outgrown => exact he

/-- A loop on the stack. -/
theorem loop_vk {cx : Cx} {F : FK} {Q : Po} {c : Code} {k : List It} {T : List V} {h : List Blk} {α : Type} (N : Nat) (st : α → List V) (hp : α → List Blk) (μ : α → Nat) (x0 : α) (h0 : Seen Q.n T h (st x0) (hp x0))
    (round : ∀ x, vk cx { poK F Q k with nx := fun T h => ∃ y, μ y < μ x ∧ Seen Q.n T h (st y) (hp y) } N [.c c] (st x) (hp x)) : CodeS cx F Q (.loop c) k T h :=
  aw_loop st hp μ x0 h0 fun x => vk_ok N [.c c] _ _ (round x)
end Go.Proofs.Ytlfnhbbgpifidaa.Sx
