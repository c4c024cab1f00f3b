/- A call in a part of the memory; a state seen otherwise in the middle of a walk; loops. -/
import Derived.Test.YtlfnhbbgpifidaaSxK
namespace Go.Proofs.Ytlfnhbbgpifidaa.Sx
set_option linter.unusedVariables false
set_option linter.unusedSimpArgs false
open Go.RowKit

mutual
/-- A value with other numbers for the blocks. -/
def ren (σ : Nat → Nat) : V → V
  | .ptr b off => .ptr (σ b) off
  | .fl sz l (some b) => .fl sz l (some (σ b))
  | .ms sz b off len => .ms sz (σ b) off len
  | .func f a c => .func f (renL σ a) (renL σ c)
  | .iface t x => .iface t (ren σ x)
  | .agg l => .agg (renL σ l)
  | .tup l => .tup (renL σ l)
  | x => x
def renL (σ : Nat → Nat) : List V → List V
  | [] => []
  | x :: l => ren σ x :: renL σ l
end
theorem renL_eq (σ : Nat → Nat) : ∀ l, renL σ l = l.map (ren σ)
  | [] => rfl
  | x :: l => by simp [renL, renL_eq σ l]

def renB (σ : Nat → Nat) : Blk → Blk
  | .obj t l => .obj t (renL σ l)
  | .tok t n => .tok t n
  | .gone => .gone
theorem renB_live (σ x) : (renB σ x).live = x.live := by cases x <;> rfl

theorem ren_R {g1 g' : Gh} {σ : Nat → Nat} (hS : g'.S = g1.S) (hβ : ∀ j c, g1.β j = some c → g'.β (σ j) = some c ∧ g'.dim (σ j) = g1.dim j) {x : V} {v : Value} (h : R g1 x v) : R g' (ren σ x) v := by
  induction h with
  | data h =>
    rw [← hS] at h
    have : ∀ {x : V} {v : Value}, RD g'.S x v → R g' (ren σ x) v := by
      intro x v h
      induction h with
      | any v => exact R.any _ _
      | bool b => exact .data (.bool b)
      | int k n => exact .data (.int k n)
      | str s => exact .data (.str s)
      | nils a => exact .data (.nils a)
      | fl0 sz a cap => exact .data (.fl0 sz a cap)
      | fl sz l ad n cap hn hc hsp f hl hs hr => exact .data (.fl sz l ad n cap hn hc hsp f hl hs hr)
      | agg l cs hn h ih =>
        simp only [ren, renL_eq]
        refine .agg (by simpa using hn) fun i x u hx hu => ?_
        simp only [List.getElem?_map, Option.map_eq_some_iff] at hx
        obtain ⟨z, hz, rfl⟩ := hx
        exact ih i z u hz hu
    exact this h
  | nilp => exact .nilp
  | ptr off h => exact .ptr off (hβ _ _ h).1
  | fp hsp h => exact .fp hsp (hS ▸ h)
  | flt h hc hb hd => exact .flt (hS ▸ h) hc (hβ _ _ hb).1 (by rw [(hβ _ _ hb).2]; exact hd)
  | flt0 sz b a => exact .flt0 sz _ a
  | ms hb hd hc => exact .ms (hβ _ _ hb).1 (by rw [(hβ _ _ hb).2]; exact hd) hc
  | func f ha hb _ _ ih ih' =>
    simp only [ren, renL_eq]
    refine .func f (by simpa using ha) (by simpa using hb) (fun i x u hx hu => ?_) (fun i x u hx hu => ?_) <;>
    · simp only [List.getElem?_map, Option.map_eq_some_iff] at hx
      obtain ⟨z, hz, rfl⟩ := hx
      first | exact ih i z u hz hu | exact ih' i z u hz hu
  | nilf => exact .nilf
  | iface t _ ih => exact .iface t ih
  | nili => exact .nili
  | agg hn _ ih =>
    simp only [ren, renL_eq]
    refine .agg (by simpa using hn) fun i x u hx hu => ?_
    simp only [List.getElem?_map, Option.map_eq_some_iff] at hx
    obtain ⟨z, hz, rfl⟩ := hx
    exact ih i z u hz hu
  | tup hn _ ih =>
    simp only [ren, renL_eq]
    refine .tup (by simpa using hn) fun i x u hx hu => ?_
    simp only [List.getElem?_map, Option.map_eq_some_iff] at hx
    obtain ⟨z, hz, rfl⟩ := hx
    exact ih i z u hz hu

/-- The numbers of a part's blocks in the whole: those of 'r' first, new ones behind N. -/
def numOf (N : Nat) : List Nat → Nat → Nat
  | [], j => N + j
  | b :: _, 0 => b
  | _ :: r, j + 1 => numOf N r j

theorem numOf_lt {N : Nat} : ∀ (r : List Nat) (j : Nat) (h : j < r.length), numOf N r j = r[j]
  | b :: r, 0, _ => rfl
  | b :: r, j + 1, h => numOf_lt r j (by simpa using h)
theorem numOf_ge {N : Nat} : ∀ (r : List Nat) (j : Nat), r.length ≤ j → numOf N r j = N + (j - r.length)
  | [], j, _ => rfl
  | b :: r, 0, h => by simp at h
  | b :: r, j + 1, h => by
    simp only [numOf, List.length_cons]
    rw [numOf_ge r j (by simpa using h)]
    congr 1; omega

/-- The part's memory laid back into the whole. -/
def back (σ : Nat → Nat) : List Blk → List Nat → List Blk → List Blk
  | h, [], l => h ++ l.map (renB σ)
  | h, b :: r, x :: l => back σ (h.set b (renB σ x)) r l
  | h, _ :: _, [] => h

theorem back_len (σ : Nat → Nat) : ∀ (r : List Nat) (h l : List Blk), r.length ≤ l.length → (back σ h r l).length = h.length + (l.length - r.length)
  | [], h, l, _ => by simp [back]
  | b :: r, h, [], hl => by simp at hl
  | b :: r, h, x :: l, hl => by
    simp only [back, List.length_cons]
    rw [back_len σ r _ l (by simpa using hl)]
    simp
theorem back_old (σ : Nat → Nat) : ∀ (r : List Nat) (h l : List Blk) (b : Nat), r.length ≤ l.length → b < h.length → b ∉ r → (back σ h r l)[b]? = h[b]?
  | [], h, l, b, _, hb, _ => by simp only [back]; rw [List.getElem?_append_left hb]
  | c :: r, h, [], b, hl, _, _ => by simp at hl
  | c :: r, h, x :: l, b, hl, hb, hn => by
    simp only [List.mem_cons, not_or] at hn
    simp only [back]
    rw [back_old σ r _ l b (by simpa using hl) (by simpa using hb) hn.2, List.getElem?_set]
    rw [if_neg (fun e => hn.1 e.symm)]
theorem back_at (σ : Nat → Nat) : ∀ (r : List Nat) (h l : List Blk) (j : Nat) (hj : j < r.length), r.length ≤ l.length → r.Nodup → r[j] < h.length → (back σ h r l)[r[j]]? = (l[j]?).map (renB σ)
  | c :: r, h, [], j, _, hl, _, _ => by simp at hl
  | c :: r, h, x :: l, 0, _, hl, hn, hb => by
    simp only [List.getElem_cons_zero] at hb ⊢
    simp only [back]
    rw [back_old σ r _ l c (by simpa using hl) (by simpa using hb) (by simpa using (List.nodup_cons.1 hn).1)]
    simp [hb]
  | c :: r, h, x :: l, j + 1, hj, hl, hn, hb => by
    simp only [List.getElem_cons_succ] at hb ⊢
    simp only [back]
    rw [back_at σ r _ l j (by simpa using hj) (by simpa using hl) (List.nodup_cons.1 hn).2 (by simpa using hb)]
    simp
theorem back_new (σ : Nat → Nat) : ∀ (r : List Nat) (h l : List Blk) (i : Nat), r.length ≤ l.length → (back σ h r l)[h.length + i]? = (l[r.length + i]?).map (renB σ)
  | [], h, l, i, _ => by
    simp only [back, List.length_nil, Nat.zero_add]
    rw [List.getElem?_append_right (by omega), List.getElem?_map, show h.length + i - h.length = i by omega]
  | b :: r, h, [], i, hl => by simp at hl
  | b :: r, h, x :: l, i, hl => by
    simp only [back]
    have := back_new σ r (h.set b (renB σ x)) l i (by simpa using hl)
    rw [List.length_set] at this
    rw [this, List.length_cons, show r.length + 1 + i = (r.length + i) + 1 by omega, List.getElem?_cons_succ]

theorem mem_idx {r : List Nat} {b : Nat} (h : b ∈ r) : ∃ j, ∃ hj : j < r.length, r[j] = b := by
  obtain ⟨j, hj, e⟩ := List.getElem_of_mem h; exact ⟨j, hj, e⟩

/-- A CALL IN A PART OF THE MEMORY: what is told of it where the memory is 'hs' alone holds in the whole, too. -/
theorem frame {cx : Cx} {f : FuncId} {h : List Blk} {args : List V} {K Kp : KV} (r : List Nat) (hs : List Blk) (as : List V) (hnd : r.Nodup) (hlen : r.length = hs.length) (hlt : ∀ b ∈ r, b < h.length)
    (hsee : Sees (fun j => r[j]?) h hs) (hargs : subL (fun j => r[j]?) as args) (hids : ∀ i ∈ idsL as, i < hs.length)
    (hK : ACalls cx f as hs (fun v h1 => hs.length ≤ h1.length ∧ K (ren (numOf h.length r) v) (back (numOf h.length r) h r h1)) (fun v h1 => hs.length ≤ h1.length ∧ Kp (ren (numOf h.length r) v) (back (numOf h.length r) h r h1))) : ACalls cx f args h K Kp := by
  obtain ⟨hb, hK⟩ := hK
  refine ⟨hb, fun g w vs hG hl hr hH => ?_⟩
  obtain ⟨k1, k2⟩ := subL_R (g := g) (n := hs.length) as args vs.toList hargs hids (by simpa using hl) (fun i x u hx hu => hr i x u hx (by simpa using hu))
  have hview := hH.view hsee
  refine (hK (g.view (fun j => r[j]?) hs.length) w vs hG (by simpa using k1) (fun i x u hx hu => k2 i x u hx (by simpa using hu)) hview.start).mono ?_
  rintro e w' ⟨g1, v, u, h1, hle1, hR1, hH1, hcase⟩
  have hn1 : hs.length ≤ h1.length := by rcases hcase with ⟨_, h, _⟩ | ⟨_, h, _⟩ <;> exact h
  have hr1 : r.length ≤ h1.length := by omega
  -- what the part owns, the whole owns
  have hview_β : ∀ j c, (g.view (fun j => r[j]?) hs.length).β j = some c → ∃ hj : j < r.length, g.β r[j] = some c := by
    intro j c hc
    simp only [Gh.view] at hc
    split at hc
    · rename_i hj
      rw [List.getElem?_eq_getElem (by omega), Option.bind_some] at hc
      exact ⟨by omega, hc⟩
    · cases hc
  have hown : ∀ c, ownOf (g.view (fun j => r[j]?) hs.length) hs c → ∃ j, ∃ hj : j < r.length, g.β r[j] = some c ∧ ∃ y, h[r[j]]? = some y ∧ y.live = true := by
    rintro c ⟨j, x, hx, hlv, hc⟩
    obtain ⟨hj, hc'⟩ := hview_β j c hc
    refine ⟨j, hj, hc', ?_⟩
    have hsb := hsee.blk j x hx
    cases x with
    | gone => cases hlv
    | obj t l =>
      obtain ⟨b', l', e, hh, _⟩ := hsb
      have e : r[j]? = some b' := e
      rw [List.getElem?_eq_getElem hj] at e; cases e
      exact ⟨_, hh, rfl⟩
    | tok t n =>
      rcases hsb with ⟨b', e, hh⟩ | e
      · have e : r[j]? = some b' := e
        rw [List.getElem?_eq_getElem hj] at e; cases e
        exact ⟨_, hh, rfl⟩
      · have e : r[j]? = none := e
        rw [List.getElem?_eq_getElem hj] at e; cases e
  have hown' : ∀ c, ownOf (g.view (fun j => r[j]?) hs.length) hs c → ownOf g h c := fun c hc => by
    obtain ⟨j, hj, h1, y, h2, h3⟩ := hown c hc
    exact ⟨_, y, h2, h3, h1⟩
  have hfar : ∀ b x c, b ∉ r → h[b]? = some x → x.live = true → g.β b = some c → ¬ ownOf (g.view (fun j => r[j]?) hs.length) hs c := by
    intro b x c hb hx hlv hc ho
    obtain ⟨j, hj, h1, y, h2, h3⟩ := hown c ho
    exact hb (by rw [hH.inj b r[j] x y c hx h2 hlv h3 hc h1]; exact List.getElem_mem hj)
  let g' : Gh := { S := g1.S
                   β := fun b => if b < h.length then (match r.idxOf? b with | some j => g1.β j | none => g.β b) else g1.β (b - h.length + r.length)
                   dim := fun b => if b < h.length then (match r.idxOf? b with | some j => g1.dim j | none => g.dim b) else g1.dim (b - h.length + r.length) }
  have hidx : ∀ j (hj : j < r.length), r.idxOf? r[j] = some j := by
    intro j hj
    rw [List.idxOf?_eq_some_iff]
    refine ⟨hj, by simp, fun j' hj' => ?_⟩
    have hne : r[j'] ≠ r[j] := fun e => by
      have := (List.getElem_inj hnd).1 e
      omega
    simpa using hne
  have hidn : ∀ b, b ∉ r → r.idxOf? b = none := by
    intro b hb
    rw [List.idxOf?_eq_none_iff]; exact hb
  have gold : ∀ b, b < h.length → b ∉ r → g'.β b = g.β b ∧ g'.dim b = g.dim b := fun b hb hn => by simp [g', hb, hidn b hn]
  have gat : ∀ j (hj : j < r.length), g'.β r[j] = g1.β j ∧ g'.dim r[j] = g1.dim j := fun j hj => by
    have := hlt r[j] (List.getElem_mem hj)
    simp [g', this, hidx j hj]
  have gnew : ∀ i, g'.β (h.length + i) = g1.β (r.length + i) ∧ g'.dim (h.length + i) = g1.dim (r.length + i) := fun i => by
    have e : h.length + i - h.length + r.length = r.length + i := by omega
    have e' : ¬ (h.length + i < h.length) := by omega
    simp only [g', if_neg e', e]; exact ⟨trivial, trivial⟩
  have hσ : ∀ j c, g1.β j = some c → g'.β (numOf h.length r j) = some c ∧ g'.dim (numOf h.length r j) = g1.dim j := by
    intro j c hc
    by_cases hj : j < r.length
    · rw [numOf_lt r j hj, (gat j hj).1, (gat j hj).2]; exact ⟨hc, rfl⟩
    · have hj' : r.length ≤ j := by omega
      rw [numOf_ge r j hj', (gnew _).1, (gnew _).2, show r.length + (j - r.length) = j by omega]; exact ⟨hc, rfl⟩
  have hle : g.le g' := by
    refine ⟨fun ad u hu => hle1.S ad u hu, fun b c hc => ?_⟩
    have hbl := (hH.lt b c hc).1
    by_cases hb : b ∈ r
    · obtain ⟨j, hj, rfl⟩ := mem_idx hb
      have hv : (g.view (fun j => r[j]?) hs.length).β j = some c := by simp [Gh.view, show j < hs.length by omega, hj, hc]
      obtain ⟨h1, h2⟩ := hle1.β j c (by omega) hv
      rw [(gat j hj).1, (gat j hj).2, h1, h2]
      exact ⟨rfl, by simp [Gh.view, hj]⟩
    · rw [(gold b hbl hb).1, (gold b hbl hb).2]; exact ⟨hc, rfl⟩
  -- the entries of the whole
  have entry : ∀ (b : Nat) x, (back (numOf h.length r) h r h1)[b]? = some x →
      (b < h.length ∧ b ∉ r ∧ h[b]? = some x) ∨ (∃ j y, h1[j]? = some y ∧ x = renB (numOf h.length r) y ∧ b = numOf h.length r j) := by
    intro b x hx
    by_cases hbl : b < h.length
    · by_cases hb : b ∈ r
      · obtain ⟨j, hj, rfl⟩ := mem_idx hb
        rw [back_at _ r h h1 j hj hr1 hnd hbl] at hx
        obtain ⟨y, hy, rfl⟩ := Option.map_eq_some_iff.1 hx
        exact .inr ⟨j, y, hy, rfl, (numOf_lt r j hj).symm⟩
      · rw [back_old _ r h h1 b hr1 hbl hb] at hx
        exact .inl ⟨hbl, hb, hx⟩
    · obtain ⟨i, rfl⟩ : ∃ i, b = h.length + i := ⟨b - h.length, by omega⟩
      rw [back_new _ r h h1 i hr1] at hx
      obtain ⟨y, hy, rfl⟩ := Option.map_eq_some_iff.1 hx
      exact .inr ⟨_, y, hy, rfl, by rw [numOf_ge r _ (by omega)]; congr 1; omega⟩
  have hβσ : ∀ j, g'.β (numOf h.length r j) = g1.β j ∧ g'.dim (numOf h.length r j) = g1.dim j := by
    intro j
    by_cases hj : j < r.length
    · rw [numOf_lt r j hj]; exact gat j hj
    · rw [numOf_ge r j (by omega), (gnew _).1, (gnew _).2, show r.length + (j - r.length) = j by omega]; exact ⟨rfl, rfl⟩
  have hH' : RelH g' (back (numOf h.length r) h r h1) { w with S0 := g.S } (ownOf g h) w' := by
    refine { frz := hH1.frz, ent := ?_, lt := ?_, inj := ?_, size := hH1.size, block := ?_, os := hH1.os, tape := hH1.tape, output := hH1.output, mine := ?_, new := ?_ }
    · intro b x hx
      rcases entry b x hx with ⟨hbl, hb, hx⟩ | ⟨j, y, hy, rfl, rfl⟩
      · have old := hH.ent b x hx
        have hblk : ∀ c, g.β b = some c → x.live = true → w'.heap[c]? = w.heap[c]? := fun c hc hlv => hH1.block c (hH.lt _ _ hc).2 (hfar b x c hb hx hlv hc)
        have hSb : ∀ ad u c, g.β b = some c → x.live = true → g1.S ad = some u → ad.block = c → g.S ad = some u := by
          intro ad u c hc hlv hu e
          rcases hH1.new ad u hu with h | h | h
          · exact h
          · exact absurd (e ▸ h) (hfar b x c hb hx hlv hc)
          · have := (hH.lt _ _ hc).2
            have h' : w.heap.size ≤ ad.block := h
            omega
        cases x with
        | gone => trivial
        | obj t l =>
          intro c hc
          rw [(gold b hbl hb).1] at hc
          obtain ⟨cs, e1, e2, e3, e4, e5⟩ := old c hc
          exact ⟨cs, (hblk c hc rfl).trans e1, by rw [(gold b hbl hb).2]; exact e2, e3, fun j y hy => let ⟨u, hu, hr⟩ := e4 j y hy; ⟨u, hu, hr.mono hle⟩, fun ad u hu e => e5 ad u (hSb ad u c hc rfl hu e) e⟩
        | tok t n =>
          intro c hc
          rw [(gold b hbl hb).1] at hc
          obtain ⟨cs, e1, e2, e3, e4⟩ := old c hc
          exact ⟨cs, (hblk c hc rfl).trans e1, by rw [(gold b hbl hb).2]; exact e2, e3, fun ad u hu e => e4 ad u (hSb ad u c hc rfl hu e) e⟩
      · have new := hH1.ent j y hy
        cases y with
        | gone => trivial
        | obj t l =>
          intro c hc
          rw [(hβσ j).1] at hc
          obtain ⟨cs, e1, e2, e3, e4, e5⟩ := new c hc
          refine ⟨cs, e1, by rw [(hβσ j).2]; exact e2, by rw [renL_eq]; simpa using e3, fun i z hz => ?_, e5⟩
          rw [renL_eq, List.getElem?_map] at hz
          obtain ⟨y, hy, rfl⟩ := Option.map_eq_some_iff.1 hz
          obtain ⟨u, hu, hr⟩ := e4 i y hy
          exact ⟨u, hu, ren_R (g1 := g1) (g' := g') rfl hσ hr⟩
        | tok t n =>
          intro c hc
          rw [(hβσ j).1] at hc
          obtain ⟨cs, e1, e2, e3, e4⟩ := new c hc
          exact ⟨cs, e1, by rw [(hβσ j).2]; exact e2, e3, e4⟩
    · intro b c hc
      rw [back_len _ r h h1 hr1]
      by_cases hbl : b < h.length
      · by_cases hb : b ∈ r
        · obtain ⟨j, hj, rfl⟩ := mem_idx hb
          rw [(gat j hj).1] at hc
          exact ⟨by omega, (hH1.lt _ _ hc).2⟩
        · rw [(gold b hbl hb).1] at hc
          exact ⟨by omega, Nat.lt_of_lt_of_le (hH.lt _ _ hc).2 hH1.size⟩
      · obtain ⟨i, rfl⟩ : ∃ i, b = h.length + i := ⟨b - h.length, by omega⟩
        rw [(gnew i).1] at hc
        have := hH1.lt _ _ hc
        exact ⟨by omega, this.2⟩
    · have far2 : ∀ b x c j y, b < h.length → b ∉ r → h[b]? = some x → x.live = true → g.β b = some c → h1[j]? = some y → y.live = true → g1.β j = some c → False := by
        intro b x c j y hbl hb hx hlv hc hy hlv' hc'
        rcases hH1.mine j y c hy hlv' hc' with h | h
        · exact hfar b x c hb hx hlv hc h
        · have := (hH.lt _ _ hc).2
          have h' : w.heap.size ≤ c := h
          omega
      intro b1 b2 x x' c e1 e2 l1 l2 c1 c2
      rcases entry b1 x e1 with ⟨n1, m1, k1⟩ | ⟨j1, y1, k1, rfl, rfl⟩ <;> rcases entry b2 x' e2 with ⟨n2, m2, k2⟩ | ⟨j2, y2, k2, rfl, rfl⟩
      · rw [(gold b1 n1 m1).1] at c1; rw [(gold b2 n2 m2).1] at c2
        exact hH.inj _ _ _ _ _ k1 k2 l1 l2 c1 c2
      · rw [(gold b1 n1 m1).1] at c1; rw [(hβσ j2).1] at c2; rw [renB_live] at l2
        exact (far2 b1 x c j2 y2 n1 m1 k1 l1 c1 k2 l2 c2).elim
      · rw [(hβσ j1).1] at c1; rw [(gold b2 n2 m2).1] at c2; rw [renB_live] at l1
        exact (far2 b2 x' c j1 y1 n2 m2 k2 l2 c2 k1 l1 c1).elim
      · rw [(hβσ j1).1] at c1; rw [(hβσ j2).1] at c2; rw [renB_live] at l1 l2
        rw [hH1.inj _ _ _ _ _ k1 k2 l1 l2 c1 c2]
    · intro i hi ho
      exact hH1.block i hi fun h => ho (hown' i h)
    · intro b x c hx hlv hc
      rcases entry b x hx with ⟨hbl, hb, hx⟩ | ⟨j, y, hy, rfl, rfl⟩
      · rw [(gold b hbl hb).1] at hc
        exact .inl ⟨b, x, hx, hlv, hc⟩
      · rw [(hβσ j).1] at hc; rw [renB_live] at hlv
        exact (hH1.mine j y c hy hlv hc).imp (hown' c) id
    · intro ad u hu
      rcases hH1.new ad u hu with h | h | h
      · exact .inl h
      · exact .inr (.inl (hown' _ h))
      · exact .inr (.inr h)
  have hR' : R g' (ren (numOf h.length r) v) u := ren_R (g1 := g1) (g' := g') rfl hσ hR1
  refine ⟨g', _, u, _, hle.toN _, hR', hH', ?_⟩
  rcases hcase with ⟨e, _, hk⟩ | ⟨e, _, hk⟩
  · exact .inl ⟨e, hk⟩
  · exact .inr ⟨e, hk⟩
end Go.Proofs.Ytlfnhbbgpifidaa.Sx
