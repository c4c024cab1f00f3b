/- The operations of a region on abstract values: what each needs and yields, and that the model's operation does so. -/
import Derived.Test.YtlfnhbbgpifidaaSxA
import Derived.Laws.Sem
import Derived.Laws.Cells
import Derived.Laws.CopyRow
import Derived.Laws.World
import Derived.Laws.Entries
namespace Go.Proofs.Ytlfnhbbgpifidaa.Sx
set_option linter.unusedVariables false
set_option linter.unusedSimpArgs false

structure Cx where
  P : Program
  G : Nat → List V

/-- The package-level variables that are read never change. -/
def GOk (cx : Cx) (g : Gh) : Prop := ∀ (i j : Nat) y, (cx.G i)[j]? = some y → ∃ u, g.S ⟨i, j, none⟩ = some u ∧ RD g.S y u

theorem GOk.mono {cx : Cx} {g g' : Gh} (hg : g.le g') (h : GOk cx g) : GOk cx g' := fun i j y hy => let ⟨u, hu, hr⟩ := h i j y hy; ⟨u, hg.S _ _ hu, hr.mono hg.S⟩

def cst1 : Value → V
  | .bool b => .bool b
  | .int k n => .int k n
  | .string s => .str s
  | .pointer none => .nilp
  | .slice _ 0 0 => .nils
  | .nilFunc => .nilf
  | .nilIface => .nili
  | _ => .any
def cst : Value → V
  | .agg cs => .agg (cs.toList.map cst1)
  | v => cst1 v

theorem cst1_R (g : Gh) (v : Value) : R g (cst1 v) v := by
  unfold cst1
  split
  · exact .data (.bool _)
  · exact .data (.int _ _)
  · exact .data (.str _)
  · exact .nilp
  · exact .data (.nils _)
  · exact .nilf
  · exact .nili
  · exact R.any g _
theorem cst_R (g : Gh) (v : Value) : R g (cst v) v := by
  unfold cst
  split
  · rename_i cs
    refine .agg (by simp) fun i x u hx hu => ?_
    simp only [List.getElem?_map, Array.getElem?_toList, hu, Option.map_some, Option.some.injEq] at hx
    subst hx
    exact cst1_R g u
  · exact cst1_R g v

def eo (cx : Cx) (T : List V) : Operand → V
  | .tmp t => T.getD t .any
  | .const v => cst v
  | .global i => .fp (cx.G i)
  | .func f => .func (.func f) [] []

theorem eo_R {cx : Cx} {g : Gh} {T : List V} {a : Act} (hG : GOk cx g) (hT : RelT g T a.tmps) (x : Operand) : R g (eo cx T x) (a.eval x) := by
  cases x with
  | tmp t => exact hT.get t
  | const v => exact cst_R g v
  | global i => exact .fp rfl fun j y hy => by obtain ⟨u, hu, hr⟩ := hG i j y hy; exact ⟨u, by rw [add_mk]; simpa using hu, hr⟩
  | func f => exact .func _ rfl rfl (by simp) (by simp)

/-! Types. -/
def isAggD : TypeDesc → Bool
  | .struct _ | .array _ _ => true
  | _ => false
/-- The size of a type, and whether its values are rows of cells. -/
def ti (P : Program) (t : TypeId) : Option (Nat × Bool) :=
  match P.info? t, P.underlying t with
  | some i, some d => some (i.size, isAggD d)
  | _, _ => none
theorem ti_spec {P : Program} {t : TypeId} {n : Nat} {b : Bool} (h : ti P t = some (n, b)) (w : World) : (sizeOf t).run P w = .ok n w ∧ (isAgg t).run P w = .ok b w := by
  unfold ti at h
  split at h
  · rename_i i d hi hd
    simp only [Option.some.injEq, Prod.mk.injEq] at h
    obtain ⟨rfl, rfl⟩ := h
    refine ⟨by simp [sizeOf, typeInfo, hi, Result.andThen], ?_⟩
    simp only [isAgg, Sem.run_bind, run_underlying hd, Result.andThen]
    cases d <;> rfl
  · cases h

/-- A field's place and type, if it has cells. -/
def fo (P : Program) (s : TypeId) (f : Nat) : Option (Nat × TypeId) :=
  match P.underlying s with
  | some (.struct fs) => match fs[f]? with
    | some x => match ti P x.type with
      | some (n, _) => if n = 0 then none else some (x.offset, x.type)
      | none => none
    | none => none
  | _ => none
theorem fo_spec {P : Program} {s : TypeId} {f off : Nat} {t : TypeId} (h : fo P s f = some (off, t)) :
    ∃ fs x n b, P.underlying s = some (.struct fs) ∧ fs[f]? = some x ∧ x.offset = off ∧ x.type = t ∧ ti P t = some (n, b) ∧ n ≠ 0 := by
  unfold fo at h
  split at h
  · rename_i fs hs
    split at h
    · rename_i x hx
      split at h
      · rename_i n b hn
        split at h
        · cases h
        · rename_i h0
          simp only [Option.some.injEq, Prod.mk.injEq] at h
          obtain ⟨rfl, rfl⟩ := h
          exact ⟨fs, x, n, b, hs, hx, rfl, rfl, hn, h0⟩
      · cases h
    · cases h
  · cases h

/-- What a type's values are made of: an array's length (none: a slice), and its elements' type. -/
inductive El where
  | arr (n : Nat) (e : TypeId)
  | slc (e : TypeId)
  | str
  | no
def el (P : Program) (t : TypeId) : El :=
  match P.underlying t with
  | some (.array n e) => .arr n e
  | some (.slice e) => .slc e
  | some .string => .str
  | _ => .no
theorem el_arr {P : Program} {t : TypeId} {n e} (h : el P t = .arr n e) : P.underlying t = some (.array n e) := by
  unfold el at h; split at h <;> first | (cases h; assumption) | cases h
theorem el_slc {P : Program} {t : TypeId} {e} (h : el P t = .slc e) : P.underlying t = some (.slice e) := by
  unfold el at h; split at h <;> first | (cases h; assumption) | cases h
theorem el_str {P : Program} {t : TypeId} (h : el P t = .str) : P.underlying t = some .string := by
  unfold el at h; split at h <;> first | (cases h; assumption) | cases h

/-! One step. -/
abbrev KV := V → List Blk → Prop

/-- Where an operation arrives: a value, an abstract heap, and the world that is so. -/
def Nxt (g : Gh) (w0 : Base) (own : Nat → Prop) (a : Act) (dst : Option Tmp) (K : KV) : Act → World → Prop := fun a' w' =>
  ∃ g' v u h', g.le g' ∧ K v h' ∧ a' = a.put dst u ∧ R g' v u ∧ RelH g' h' w0 own w'

/-- Where an operation arrives that panics. -/
def Pan (g : Gh) (w0 : Base) (own : Nat → Prop) (a : Act) (Kp : KV) (Q : Exit → Act → World → Prop) : Prop :=
  ∀ g' v u h' w', g.le g' → Kp v h' → R g' v u → RelH g' h' w0 own w' → Q (.panic [{ v := u, recovered := false }]) a w'

def StepOk (cx : Cx) (o : Oper) (T : List V) (h : List Blk) (K Kp : KV) : Prop :=
  ∀ g w0 own a w Q, GOk cx g → RelT g T a.tmps → RelH g h w0 own w → Pan g w0 own a Kp Q → o.wp cx.P a w (Nxt g w0 own a o.dst K) Q

theorem wp_val {P : Program} {o : Oper} {a : Act} {w : World} {g : Gh} {w0 own} {K : KV} {Q} {h : List Blk} {v : V} {u : Value}
    (hrun : (execOp a.eval o).run P w = .ok (.value u) w) (hK : K v h) (hR : R g v u) (hH : RelH g h w0 own w) : o.wp P a w (Nxt g w0 own a o.dst K) Q := by
  unfold Oper.wp; rw [hrun]
  exact ⟨g, v, u, h, .refl g, hK, rfl, hR, hH⟩

section
variable {cx : Cx} {T : List V} {h : List Blk} {K Kp : KV} {o : Oper}

theorem st_move (x : Operand) (ho : o.op = .move x ∨ o.op = .assign x) (hK : K (eo cx T x) h) : StepOk cx o T h K Kp := by
  intro g w0 own a w Q hG hT hH _
  exact wp_val (by rcases ho with ho | ho <;> simp [execOp, ho]) hK (eo_R hG hT x) hH

theorem st_pick (c x y : Operand) (ho : o.op = .pick c x y) {b : Bool} (hc : eo cx T c = .bool b) (hK : K (if b then eo cx T x else eo cx T y) h) : StepOk cx o T h K Kp := by
  intro g w0 own a w Q hG hT hH _
  have e := (hc ▸ eo_R hG hT c).bool_inv
  refine wp_val (u := if b then a.eval x else a.eval y) (by simp [execOp, ho, e, asBool, Result.andThen]) hK ?_ hH
  cases b <;> exact eo_R hG hT _

theorem RelH.cell {g : Gh} {w0 own w} (hH : RelH g h w0 own w) {b c : Nat} {t cells} (hb : h[b]? = some (.obj t cells)) (hc : g.β b = some c) {j : Nat} {y : V} (hy : cells[j]? = some y) :
    ∃ u, w.cell? ⟨c, j, none⟩ = some u ∧ R g y u := by
  obtain ⟨cs, hcs, _, _, hr, _⟩ := hH.ent b _ hb c hc
  obtain ⟨u, hu, hr⟩ := hr j y hy
  exact ⟨u, by simp [World.cell?, hcs, hu], hr⟩

theorem loadVar_one {P : Program} {w : World} {t : TypeId} {n : Nat} (ht : ti P t = some (n, false)) {ad : Addr} {u : Value} (hu : w.cell? ad = some u) : (loadVar t ad).run P w = .ok u w := by
  simp [loadVar, (ti_spec ht w).2, Result.andThen, hu]
theorem loadVar_agg {P : Program} {w : World} {t : TypeId} {n : Nat} (ht : ti P t = some (n, true)) {ad : Addr} {cs : List Value} (hl : cs.length = n) (hu : ∀ j v, cs[j]? = some v → w.cell? (ad.add j) = some v) :
    (loadVar t ad).run P w = .ok (.agg cs.toArray) w := by
  subst hl
  simp [loadVar, (ti_spec ht w).2, (ti_spec ht w).1, Result.andThen, run_loadCells_list w ad cs hu]

/-- A list of values, one for each. -/
theorem list_of {α β : Type} (Rr : α → β → Prop) : ∀ (l : List α), (∀ (j : Nat) y, l[j]? = some y → ∃ u, Rr y u) → ∃ us : List β, us.length = l.length ∧ ∀ (j : Nat) y u, l[j]? = some y → us[j]? = some u → Rr y u
  | [], _ => ⟨[], rfl, by simp⟩
  | y :: l, h => by
    obtain ⟨u, hu⟩ := h 0 y rfl
    obtain ⟨us, hl, hr⟩ := list_of Rr l fun j z hz => h (j + 1) z (by simpa using hz)
    refine ⟨u :: us, by simp [hl], fun j z v hz hv => ?_⟩
    cases j with
    | zero => simp at hz hv; subst hz hv; exact hu
    | succ j => exact hr j z v (by simpa using hz) (by simpa using hv)

theorem st_load_ptr (t : TypeId) (x : Operand) (ho : o.op = .load t x) {b off : Nat} (hx : eo cx T x = .ptr b off) {ty cells} (hb : h[b]? = some (.obj ty cells))
    {n : Nat} {ag : Bool} (ht : ti cx.P t = some (n, ag))
    (hK : if ag then off + n ≤ cells.length ∧ K (.agg ((cells.drop off).take n)) h else ∃ y, cells[off]? = some y ∧ K y h) : StepOk cx o T h K Kp := by
  intro g w0 own a w Q hG hT hH _
  obtain ⟨c, hc, e⟩ := (hx ▸ eo_R hG hT x).ptr_inv
  cases ag with
  | false =>
    obtain ⟨y, hy, hK⟩ := hK
    obtain ⟨u, hu, hr⟩ := hH.cell hb hc hy
    exact wp_val (u := u) (by simp [execOp, ho, e, Instr.loadAt, Instr.sureAddr, loadVar_one ht hu, Result.andThen]) hK hr hH
  | true =>
    obtain ⟨hle, hK⟩ := hK
    have hlen : ((cells.drop off).take n).length = n := by simp; omega
    obtain ⟨us, hul, hur⟩ := list_of (fun (jy : Nat × V) u => w.cell? ⟨c, off + jy.1, none⟩ = some u ∧ R g jy.2 u) (((cells.drop off).take n).zipIdx.map fun p => (p.2, p.1)) (by
      intro j y hy
      simp only [List.getElem?_map, List.getElem?_zipIdx, Option.map_map, Option.map_eq_some_iff] at hy
      obtain ⟨z, hz, rfl⟩ := hy
      simp only [List.getElem?_take, List.getElem?_drop] at hz
      split at hz
      · obtain ⟨u, hu, hr⟩ := hH.cell hb hc hz
        exact ⟨u, by simpa using hu, hr⟩
      · cases hz)
    simp only [List.length_map, List.length_zipIdx] at hul
    have key : ∀ (j : Nat) z u, ((cells.drop off).take n)[j]? = some z → us[j]? = some u → w.cell? ⟨c, off + j, none⟩ = some u ∧ R g z u := by
      intro j z u hz hu
      exact hur j (j, z) u (by simp [List.getElem?_zipIdx, hz]) hu
    refine wp_val (u := .agg us.toArray) (v := .agg ((cells.drop off).take n)) ?_ hK (.agg (by simp [hul]) fun i z u hz hu => (key i z u hz (by simpa using hu)).2) hH
    have hload := loadVar_agg (P := cx.P) (w := w) ht (ad := ⟨c, off, none⟩) (cs := us) (by rw [hul, hlen]) (fun j v hv => by
      rw [add_mk]
      have hj : j < us.length := (List.getElem?_eq_some_iff.1 hv).1
      exact (key j _ v (List.getElem?_eq_getElem (by omega)) hv).1)
    simp [execOp, ho, e, Instr.loadAt, Instr.sureAddr, hload, Result.andThen]

theorem st_load_fp (t : TypeId) (x : Operand) (ho : o.op = .load t x) {cs : List V} (hx : eo cx T x = .fp cs)
    {n : Nat} {ag : Bool} (ht : ti cx.P t = some (n, ag))
    (hK : if ag then n ≤ cs.length ∧ K (.agg (cs.take n)) h else ∃ y, cs[0]? = some y ∧ K y h) : StepOk cx o T h K Kp := by
  intro g w0 own a w Q hG hT hH _
  obtain ⟨ad, e, hsp, hcs⟩ := (hx ▸ eo_R hG hT x).fp_inv
  cases ag with
  | false =>
    obtain ⟨y, hy, hK⟩ := hK
    obtain ⟨u, hu, hr⟩ := hcs 0 y hy
    rw [add_plain hsp] at hu
    have hu' := hH.frz _ _ hu
    have e' : (⟨ad.block, ad.off + 0, none⟩ : Addr) = ad := by cases ad; simp at hsp; simp [hsp]
    rw [e'] at hu'
    exact wp_val (u := u) (by simp [execOp, ho, e, Instr.loadAt, Instr.sureAddr, loadVar_one ht hu', Result.andThen]) hK (.data hr) hH
  | true =>
    obtain ⟨hle, hK⟩ := hK
    obtain ⟨us, hul, hur⟩ := list_of (fun (jy : Nat × V) u => w.cell? (ad.add jy.1) = some u ∧ RD g.S jy.2 u) ((cs.take n).zipIdx.map fun p => (p.2, p.1)) (by
      intro j y hy
      simp only [List.getElem?_map, List.getElem?_zipIdx, Option.map_map, Option.map_eq_some_iff] at hy
      obtain ⟨z, hz, rfl⟩ := hy
      simp only [List.getElem?_take] at hz
      split at hz
      · obtain ⟨u, hu, hr⟩ := hcs j z hz
        exact ⟨u, by simpa using hH.frz _ _ hu, hr⟩
      · cases hz)
    simp only [List.length_map, List.length_zipIdx, List.length_take] at hul
    have key : ∀ (j : Nat) z u, (cs.take n)[j]? = some z → us[j]? = some u → w.cell? (ad.add j) = some u ∧ RD g.S z u := by
      intro j z u hz hu
      exact hur j (j, z) u (by simp [List.getElem?_zipIdx, hz]) hu
    refine wp_val (u := .agg us.toArray) (v := .agg (cs.take n)) ?_ hK (.agg (by simp [hul]) fun i z u hz hu => .data (key i z u hz (by simpa using hu)).2) hH
    have hload := loadVar_agg (P := cx.P) (w := w) ht (ad := ad) (cs := us) (by omega) (fun j v hv => by
      have hj : j < us.length := (List.getElem?_eq_some_iff.1 hv).1
      exact (key j _ v (List.getElem?_eq_getElem (by simp; omega)) hv).1)
    simp [execOp, ho, e, Instr.loadAt, Instr.sureAddr, hload, Result.andThen]
end
end Go.Proofs.Ytlfnhbbgpifidaa.Sx
