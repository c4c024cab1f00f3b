/- Appending to a slice whose elements never change. -/
import Derived.Test.YtlfnhbbgpifidaaSxF
namespace Go.Proofs.Ytlfnhbbgpifidaa.Sx
set_option linter.unusedVariables false
set_option linter.unusedSimpArgs false
open Go.RowKit

theorem arr3 (a b : List Value) (c : Array Value) : (a ++ (b ++ c.toList)).toArray = a.toArray ++ (b.toArray ++ c) := by apply Array.ext'; simp

theorem append_out {P : Program} {w : World} {t t' ty e : TypeId} {e' : TypeDesc} (ht : P.underlying t = some (.slice e)) (ht' : P.underlying t' = some e') (hni : ∀ k, e' ≠ .int k) {sz by_ zs : Nat} (hz : tz P e = some (sz, by_, zs))
    (hzs : zs = sz) {base : Option Addr} {n cap m : Nat} {x : Value} {us old : List Value} (h1 : (Builtin.lenOf x).run P w = .ok m w) (h2 : ∀ w', w'.heap = w.heap → (Builtin.firstCells sz m x).run P w' = .ok us.toArray w')
    (h3 : ∀ w', w'.heap = w.heap → (Builtin.firstCells sz n (.slice base n cap)).run P w' = .ok old.toArray w') (hgt : cap < n + m) (hroom : (n + m) * by_ ≤ 140737488355328) (h0 : 0 < by_) :
    ∃ (newCap : Nat) (w1 : World) (rest : List Value), n + m ≤ newCap ∧ w1.heap = w.heap ∧ w1.os = w.os ∧ w1.tape = w.tape ∧ w1.output = w.output ∧ rest.length = (newCap - (n + m)) * sz ∧
      (Builtin.append_ #[t, t'] ty #[.slice base n cap, x]).run P w = .ok (.slice (some ⟨w.heap.size, 0, none⟩) (n + m) newCap) (w1.alloc (.cells (old ++ us ++ rest).toArray e)) := by
  obtain ⟨i, z, hi, hz1, hz2, hz3, hz4⟩ := tz_spec hz
  have hfits := growslice_fits (bytes := by_) hgt hroom
  have hmax : ¬ ((n : Int) + (m : Int) > IntKind.i64.max) := by
    have : IntKind.i64.max = 9223372036854775807 := rfl
    have : n + m ≤ (n + m) * by_ := Nat.le_mul_of_pos_right _ h0
    omega
  have hforced : (Question.appendCap (n + m) cap e).forced = false := rfl
  obtain ⟨nc, hnc, hcut⟩ : ∃ nc, n + m ≤ nc ∧ (Question.appendCap (n + m) cap e).cut (w.tape w.drawn (.appendCap (n + m) cap e)) = nc := ⟨_, Nat.le_add_right _ _, rfl⟩
  refine ⟨nc, w.drew, (Builtin.zeroCells z.cells (nc - (n + m))).toList, hnc, rfl, rfl, rfl, rfl, ?_, ?_⟩
  · simp [Builtin.zeroCells, hz4, hzs]
  · have e2 := h2 w.drew rfl
    have e3 := h3 w.drew rfl
    have hz0 : zeroValue e = (do let i ← typeInfo e; match i.zero with | some v => pure v | none => unsupported (.resourceLimit "a value of more than 2^22 cells")) := rfl
    have hnle : ¬ (n + m ≤ cap) := by omega
    have hfits' : ¬ (2 ^ 48 < Builtin.nextslicecap (n + m) cap * by_) := by omega
    have hby : by_ ≠ 0 := Nat.ne_of_gt h0
    have hdrew : w.drew.heap = w.heap := rfl
    simp only [Builtin.append_]
    simp [run_underlying ht, run_underlying ht', sizeOf, typeInfo, hi, hz2, Result.andThen]
    cases e' <;> first | exact absurd rfl (hni _) | skip
    all_goals
      simp [Result.andThen, h1, hnle, hmax, hz3, hby, hfits', hforced, hcut, e2, e3, hz0, typeInfo, hi, hz1, newRow, hdrew]
      rw [arr3]
      rfl

/-- A new block whose first cells are given away at once. -/
theorem RelH.give {g : Gh} {h : List Blk} {w0 own w} (hH : RelH g h w0 own w) (t : TypeId) (l : List V) (cs : Array Value) (hl : l.length ≤ cs.size)
    (hr : ∀ (j : Nat) y, l[j]? = some y → ∃ u, cs[j]? = some u ∧ RD g.S y u) :
    ∃ g', g.le g' ∧ g'.β h.length = some w.heap.size ∧ g'.dim h.length = cs.size ∧ (∀ (j : Nat) y, l[j]? = some y → ∃ u, g'.S ⟨w.heap.size, j, none⟩ = some u ∧ RD g'.S y u) ∧
      RelH g' (h ++ [.tok t l.length]) w0 own (w.alloc (.cells cs t)) := by
  obtain ⟨hle, hH'⟩ := hH.alloc t [] cs (Nat.zero_le _) (by simp)
  have hSlt : ∀ ad u, g.S ad = some u → ad.block < w.heap.size := fun ad u hu => World.block_lt_of_cell? w ad (hH.frz ad u hu)
  let S' : Frz := fun ad => if ad.block = w.heap.size then (if ad.spot = none ∧ ad.off < l.length then cs[ad.off]? else none) else g.S ad
  have hS : ∀ ad u, g.S ad = some u → S' ad = some u := by
    intro ad u hu
    have := hSlt ad u hu
    simp only [S']; rw [if_neg (by omega)]; exact hu
  let g' : Gh := { (g.more h.length w.heap.size cs.size) with S := S' }
  have hle' : (g.more h.length w.heap.size cs.size).le g' := ⟨fun ad u hu => hS ad u hu, fun b c hb => ⟨hb, rfl⟩⟩
  have entry : ∀ (b' : Nat) x, (h ++ [Blk.tok t l.length])[b']? = some x → (b' = h.length ∧ x = .tok t l.length) ∨ (b' < h.length ∧ h[b']? = some x ∧ (h ++ [Blk.obj t []])[b']? = some x) := by
    intro b' x hx
    rw [List.getElem?_append] at hx
    split at hx
    · exact .inr ⟨‹_›, hx, by rw [List.getElem?_append_left ‹_›]; exact hx⟩
    · have hb' := (List.getElem?_eq_some_iff.1 hx).1
      simp at hb'
      have : b' = h.length := by omega
      subst this
      simp at hx
      exact .inl ⟨rfl, hx.symm⟩
  have entry0 : (h ++ [Blk.obj t []])[h.length]? = some (.obj t []) := by simp
  refine ⟨g', hle.trans hle', by simp [g', Gh.more], by simp [g', Gh.more], ?_, ?_⟩
  · intro j y hy
    have hj := (List.getElem?_eq_some_iff.1 hy).1
    obtain ⟨u, hu, hr⟩ := hr j y hy
    exact ⟨u, by simp only [g', S', if_true]; rw [if_pos ⟨trivial, hj⟩]; exact hu, hr.mono hS⟩
  · refine { frz := ?_, ent := ?_, lt := ?_, inj := ?_, size := hH'.size, block := hH'.block, os := hH'.os, tape := hH'.tape, output := hH'.output, mine := ?_, new := ?_ }
    · intro ad u hu
      by_cases e : ad.block = w.heap.size
      · simp only [g', S', if_pos e] at hu
        split at hu
        · rename_i hsp
          have hnew : (w.alloc (.cells cs t)).heap[ad.block]? = some (.cells cs t (0, 0)) := by rw [e]; unfold World.alloc; simp
          simp [World.cell?, hnew, hsp.1, hu]
        · cases hu
      · simp only [g', S', if_neg e] at hu
        exact hH'.frz ad u hu
    · intro b' x hx
      rcases entry b' x hx with ⟨rfl, rfl⟩ | ⟨hlt, hx, hx2⟩
      · intro c hc
        obtain ⟨cs', h1, h2, _⟩ := hH'.ent h.length _ entry0 c hc
        have hc' : c = w.heap.size := by simpa [g', Gh.more] using hc.symm
        subst hc'
        have hnew : (w.alloc (.cells cs t)).heap[w.heap.size]? = some (.cells cs t (0, 0)) := by unfold World.alloc; simp
        rw [hnew] at h1; cases h1
        refine ⟨cs, hnew, h2, hl, fun ad u hu e => ?_⟩
        simp only [g', S', if_pos e] at hu
        split at hu
        · rename_i hsp; exact hsp.2
        · cases hu
      · have old := hH'.ent b' x hx2
        have hne : ∀ c, g'.β b' = some c → c < w.heap.size := by
          intro c hc
          have : (g.more h.length w.heap.size cs.size).β b' = some c := hc
          simp only [Gh.more] at this
          rw [if_neg (by omega)] at this
          exact (hH.lt _ _ this).2
        have hSb : ∀ ad u c, g'.β b' = some c → g'.S ad = some u → ad.block = c → g.S ad = some u := by
          intro ad u c hc hu e
          have := hne c hc
          simp only [g', S'] at hu
          rw [if_neg (by omega)] at hu
          exact hu
        cases x with
        | gone => trivial
        | obj t' l' =>
          intro c hc
          obtain ⟨cs', h1, h2, h3, h4, h5⟩ := old c hc
          exact ⟨cs', h1, h2, h3, fun j y hy => let ⟨u, hu, hr⟩ := h4 j y hy; ⟨u, hu, hr.mono hle'⟩, fun ad u hu e => h5 ad u (hSb ad u c hc hu e) e⟩
        | tok t' n' =>
          intro c hc
          obtain ⟨cs', h1, h2, h3, h4⟩ := old c hc
          exact ⟨cs', h1, h2, h3, fun ad u hu e => h4 ad u (hSb ad u c hc hu e) e⟩
    · intro b c hb; have := hH'.lt b c hb; simpa using this
    · intro b1 b2 x x' c h1 h2 l1 l2 e1 e2
      rcases entry b1 x h1 with ⟨f1, f2⟩ | ⟨n1, _, k1⟩ <;> rcases entry b2 x' h2 with ⟨f3, f4⟩ | ⟨n2, _, k2⟩
      · rw [f1, f3]
      · subst f1; exact hH'.inj _ _ _ _ _ entry0 k2 rfl l2 e1 e2
      · subst f3; exact hH'.inj _ _ _ _ _ k1 entry0 l1 rfl e1 e2
      · exact hH'.inj _ _ _ _ _ k1 k2 l1 l2 e1 e2
    · intro b x c hx hl hc
      rcases entry b x hx with ⟨f1, f2⟩ | ⟨n1, _, k1⟩
      · subst f1; exact hH'.mine _ _ _ entry0 rfl hc
      · exact hH'.mine _ _ _ k1 hl hc
    · intro ad u hu
      by_cases e : ad.block = w.heap.size
      · exact .inr (.inr (by rw [e]; exact hH.size))
      · simp only [g', S', if_neg e] at hu
        exact hH.new ad u hu

theorem RelH.kill {g : Gh} {h : List Blk} {w0 own w} (hH : RelH g h w0 own w) (b : Nat) : RelH g (h.set b .gone) w0 own w := by
  have entry : ∀ (b' : Nat) x, (h.set b .gone)[b']? = some x → x = .gone ∨ h[b']? = some x := by
    intro b' x hx
    rw [List.getElem?_set] at hx
    by_cases e : b = b'
    · subst e
      rw [if_pos rfl] at hx
      split at hx
      · cases hx; exact .inl rfl
      · cases hx
    · rw [if_neg e] at hx; exact .inr hx
  refine { frz := hH.frz, ent := ?_, lt := ?_, inj := ?_, size := hH.size, block := hH.block, os := hH.os, tape := hH.tape, output := hH.output, mine := ?_, new := hH.new }
  · intro b' x hx; rcases entry b' x hx with rfl | hx
    · trivial
    · exact hH.ent b' x hx
  · intro b' c hc; simpa using hH.lt b' c hc
  · intro b1 b2 x x' c h1 h2 l1 l2 e1 e2
    rcases entry b1 x h1 with rfl | h1
    · cases l1
    · rcases entry b2 x' h2 with rfl | h2
      · cases l2
      · exact hH.inj _ _ _ _ _ h1 h2 l1 l2 e1 e2
  · intro b' x c hx hl hc
    rcases entry b' x hx with rfl | hx
    · cases hl
    · exact hH.mine _ _ _ hx hl hc

/-- More cells of a block given away, behind those that were: the right to append passes to a new number. -/
theorem RelH.giveMore {g : Gh} {h : List Blk} {w0 own w w'} (hH : RelH g h w0 own w) {b c : Nat} {t : TypeId} {n : Nat} {cs : Array Value} (l : List V)
    (hb : h[b]? = some (.tok t n)) (hc : g.β b = some c) (hu : Upd w w' c cs t) (hsz : cs.size = g.dim b) (hn : n + l.length ≤ cs.size)
    (hold : ∀ ad u, g.S ad = some u → ad.block = c → cs[ad.off]? = some u) (hr : ∀ (j : Nat) y, l[j]? = some y → ∃ u, cs[n + j]? = some u ∧ RD g.S y u) :
    ∃ g', g.le g' ∧ g'.β h.length = some c ∧ g'.dim h.length = g.dim b ∧ (∀ (j : Nat) y, l[j]? = some y → ∃ u, g'.S ⟨c, n + j, none⟩ = some u ∧ RD g'.S y u) ∧
      RelH g' (h.set b .gone ++ [.tok t (n + l.length)]) w0 own w' := by
  obtain ⟨cs0, hcs0, _, _, hnf⟩ := hH.ent b _ hb c hc
  have hbl : b < h.length := (List.getElem?_eq_some_iff.1 hb).1
  have hnone : g.β h.length = none := by
    cases e : g.β h.length with
    | none => rfl
    | some c => exact absurd (hH.lt _ _ e).1 (Nat.lt_irrefl _)
  let S' : Frz := fun ad => if ad.block = c ∧ ad.spot = none ∧ n ≤ ad.off ∧ ad.off < n + l.length then cs[ad.off]? else g.S ad
  have hS : ∀ ad u, g.S ad = some u → S' ad = some u := by
    intro ad u hu
    simp only [S']
    split
    · rename_i e; exact hold ad u hu e.1
    · exact hu
  let g' : Gh := { (g.more h.length c (g.dim b)) with S := S' }
  have hle : g.le g' := (Gh.more_le hnone).trans ⟨fun ad u hu => hS ad u hu, fun b c hb => ⟨hb, rfl⟩⟩
  have entry : ∀ (b' : Nat) x, (h.set b .gone ++ [Blk.tok t (n + l.length)])[b']? = some x → (b' = h.length ∧ x = .tok t (n + l.length)) ∨ (b' < h.length ∧ x = .gone) ∨ (b' < h.length ∧ b' ≠ b ∧ h[b']? = some x) := by
    intro b' x hx
    rw [List.getElem?_append] at hx
    simp only [List.length_set] at hx
    split at hx
    · rename_i hlt
      rw [List.getElem?_set] at hx
      by_cases e : b = b'
      · subst e; simp [hlt] at hx; exact .inr (.inl ⟨hlt, hx.symm⟩)
      · rw [if_neg e] at hx; exact .inr (.inr ⟨hlt, fun h => e h.symm, hx⟩)
    · have hb' := (List.getElem?_eq_some_iff.1 hx).1
      simp at hb'
      have : b' = h.length := by omega
      subst this
      simp at hx
      exact .inl ⟨rfl, hx.symm⟩
  have hβ : ∀ b', b' < h.length → g'.β b' = g.β b' ∧ g'.dim b' = g.dim b' := fun b' hb' => by simp [g', Gh.more, Nat.ne_of_lt hb']
  have hβn : g'.β h.length = some c := by simp [g', Gh.more]
  refine ⟨g', hle, hβn, by simp [g', Gh.more], ?_, ?_⟩
  · intro j y hy
    have hj := (List.getElem?_eq_some_iff.1 hy).1
    obtain ⟨u, hu', hr'⟩ := hr j y hy
    exact ⟨u, by simp only [g', S']; rw [if_pos ⟨trivial, trivial, by omega, by omega⟩]; exact hu', hr'.mono hS⟩
  · refine { frz := ?_, ent := ?_, lt := ?_, inj := ?_, size := ?_, block := ?_, os := hu.os.trans hH.os, tape := hu.tape.trans hH.tape, output := hu.output.trans hH.output, mine := ?_, new := ?_ }
    · intro ad u hSu
      by_cases e : ad.block = c
      · have hcell : cs[ad.off]? = some u ∧ ad.spot = none := by
          simp only [g', S'] at hSu
          split at hSu
          · rename_i hh; exact ⟨hSu, hh.2.1⟩
          · refine ⟨hold ad u hSu e, ?_⟩
            have hcl := hH.frz ad u hSu
            rw [← e] at hcs0
            simp only [World.cell?, hcs0] at hcl
            cases hsp : ad.spot with
            | none => rfl
            | some s => simp [hsp] at hcl
        rw [← e] at hu
        simp [World.cell?, hu.new, hcell.1, hcell.2]
      · have : g.S ad = some u := by
          simp only [g', S'] at hSu
          rw [if_neg (fun hh => e hh.1)] at hSu
          exact hSu
        rw [cell?_of (hu.old _ e)]
        exact hH.frz ad u this
    · intro b' x hx
      rcases entry b' x hx with ⟨rfl, rfl⟩ | ⟨_, rfl⟩ | ⟨hlt, hne, hx⟩
      · intro c' hc'
        rw [hβn] at hc'; cases hc'
        refine ⟨cs, hu.new, by simp [g', Gh.more, hsz], hn, fun ad u hSu e => ?_⟩
        simp only [g', S'] at hSu
        split at hSu
        · rename_i hh; exact hh.2.2.2
        · have := hnf ad u hSu e; omega
      · trivial
      · have hback : ∀ ad u c', g.β b' = some c' → g'.S ad = some u → ad.block = c' → x.live = true → g.S ad = some u := by
          intro ad u c' hc' hSu e hl
          simp only [g', S'] at hSu
          rw [if_neg] at hSu
          · exact hSu
          · rintro ⟨h1, _⟩
            exact hne (hH.inj b' b x _ c' hx hb hl rfl hc' (by rw [hc, ← h1, e]))
        have hblk : ∀ c', g.β b' = some c' → x.live = true → w'.heap[c']? = w.heap[c']? := by
          intro c' hc' hl
          exact hu.old _ fun e => hne (hH.inj b' b x _ c' hx hb hl rfl hc' (by rw [hc, e]))
        have old := hH.ent b' x hx
        cases x with
        | gone => trivial
        | obj t' l' =>
          intro c' hc'
          rw [(hβ b' hlt).1] at hc'
          obtain ⟨cs', h1, h2, h3, h4, h5⟩ := old c' hc'
          exact ⟨cs', (hblk c' hc' rfl).trans h1, (hβ b' hlt).2 ▸ h2, h3, fun j y hy => let ⟨u, hu, hr⟩ := h4 j y hy; ⟨u, hu, hr.mono hle⟩, fun ad u hSu e => h5 ad u (hback ad u c' hc' hSu e rfl) e⟩
        | tok t' n' =>
          intro c' hc'
          rw [(hβ b' hlt).1] at hc'
          obtain ⟨cs', h1, h2, h3, h4⟩ := old c' hc'
          exact ⟨cs', (hblk c' hc' rfl).trans h1, (hβ b' hlt).2 ▸ h2, h3, fun ad u hSu e => h4 ad u (hback ad u c' hc' hSu e rfl) e⟩
    · intro b' c' hc'
      simp only [List.length_append, List.length_set, List.length_singleton, hu.size]
      by_cases e : b' = h.length
      · subst e; rw [hβn] at hc'; cases hc'; have := (hH.lt _ _ hc).2; omega
      · have : g.β b' = some c' := by simpa [g', Gh.more, e] using hc'
        have := hH.lt _ _ this; omega
    · intro b1 b2 x x' c' h1 h2 l1 l2 e1 e2
      rcases entry b1 x h1 with ⟨f1, f2⟩ | ⟨_, rfl⟩ | ⟨n1, m1, k1⟩
      · rcases entry b2 x' h2 with ⟨f3, f4⟩ | ⟨_, rfl⟩ | ⟨n2, m2, k2⟩
        · rw [f1, f3]
        · cases l2
        · subst f1
          rw [hβn] at e1; cases e1
          rw [(hβ b2 n2).1] at e2
          exact absurd (hH.inj b2 b _ _ _ k2 hb l2 rfl e2 hc) m2
      · cases l1
      · rcases entry b2 x' h2 with ⟨f3, f4⟩ | ⟨_, rfl⟩ | ⟨n2, m2, k2⟩
        · subst f3
          rw [hβn] at e2; cases e2
          rw [(hβ b1 n1).1] at e1
          exact absurd (hH.inj b1 b _ _ _ k1 hb l1 rfl e1 hc) m1
        · cases l2
        · rw [(hβ b1 n1).1] at e1; rw [(hβ b2 n2).1] at e2
          exact hH.inj _ _ _ _ _ k1 k2 l1 l2 e1 e2
    · rw [hu.size]; exact hH.size
    · intro i hi ho
      refine (hu.old i fun e => ?_).trans (hH.block i hi ho)
      subst e
      rcases hH.mine b _ _ hb rfl hc with h | h
      · exact ho h
      · omega
    · intro b' x c' hx hl hc'
      rcases entry b' x hx with ⟨f1, f2⟩ | ⟨_, rfl⟩ | ⟨n1, m1, k1⟩
      · subst f1; rw [hβn] at hc'; cases hc'; exact hH.mine b _ _ hb rfl hc
      · cases hl
      · rw [(hβ b' n1).1] at hc'; exact hH.mine _ _ _ k1 hl hc'
    · intro ad u hSu
      simp only [g', S'] at hSu
      split at hSu
      · rename_i hh; rw [hh.1]; exact .inr (hH.mine b _ _ hb rfl hc)
      · exact hH.new ad u hSu
end Go.Proofs.Ytlfnhbbgpifidaa.Sx
