/- More operations: the lesser and the greater of two numbers; whether two rows of numbers are equal. -/
import Derived.Test.YtlfnhbbgpifidaaSxI
import Derived.Laws.StructEq
namespace Go.Proofs.Ytlfnhbbgpifidaa.Sx
set_option linter.unusedVariables false
set_option linter.unusedSimpArgs false
open Go.RowKit

section
variable {cx : Cx} {T : List V} {h : List Blk} {K Kp : KV} {o : Oper}

theorem st_min (x y : Operand) (ts : Array TypeId) (ho : o.op = .call { callee := .builtin .min, args := #[x, y], argTypes := ts }) {k k' : IntKind} {i j : Int} (hx : eo cx T x = .int k i) (hy : eo cx T y = .int k' j)
    (hK : K (.int k (if j < i then j else i)) h) : StepOk cx o T h K Kp := by
  intro g w0 own a w Q hG hT hH _
  have ex := (hx ▸ eo_R hG hT x).int_inv
  have ey := (hy ▸ eo_R hG hT y).int_inv
  refine wp_val (u := .int k (if j < i then j else i)) ?_ hK (.data (.int _ _)) hH
  simp [execOp, ho, resolve, invoke, builtin, Builtin.min_, Builtin.min2, ex, ey, Result.andThen]
theorem st_max (x y : Operand) (ts : Array TypeId) (ho : o.op = .call { callee := .builtin .max, args := #[x, y], argTypes := ts }) {k k' : IntKind} {i j : Int} (hx : eo cx T x = .int k i) (hy : eo cx T y = .int k' j)
    (hK : K (.int k (if j > i then j else i)) h) : StepOk cx o T h K Kp := by
  intro g w0 own a w Q hG hT hH _
  have ex := (hx ▸ eo_R hG hT x).int_inv
  have ey := (hy ▸ eo_R hG hT y).int_inv
  refine wp_val (u := .int k (if j > i then j else i)) ?_ hK (.data (.int _ _)) hH
  simp [execOp, ho, resolve, invoke, builtin, Builtin.max_, Builtin.max2, ex, ey, Result.andThen]

/-- Whether a field's cells are equal. -/
def eqF (P : Program) (t : TypeId) : V → V → Option Bool
  | .int k i, .int k' j => match P.underlying t with
    | some (.int _) => if k = k' then some (i == j) else none
    | _ => none
  | .bool i, .bool j => match P.underlying t with
    | some .bool => some (i == j)
    | _ => none
  | _, _ => none
def and2 : Option Bool → Option Bool → Option Bool
  | some b, some c => some (b && c)
  | _, _ => none
def eqFs (P : Program) (l l' : List V) : List Field → Option Bool
  | [] => some true
  | f :: fs => if f.name = "_" then none else and2 (eqF P f.type (l.getD f.offset .any) (l'.getD f.offset .any)) (eqFs P l l' fs)
/-- The fields of a row that can be compared. -/
def sfs (P : Program) (t : TypeId) : Option (List Field) :=
  match P.underlying t with
  | some (.struct fs) => if P.stoodInHeld t = false ∧ P.eqGuardType P.depth t = false then some fs.toList else none
  | _ => none

theorem part_run {P : Program} {w : World} {t : TypeId} {xs : Array Value} {off : Nat} {v : Value} (hu : ∃ d, P.underlying t = some d ∧ isAggD d = false) (hv : xs[off]? = some v) : (part t xs off).run P w = .ok v w := by
  obtain ⟨d, hu, hd⟩ := hu
  simp only [part, isAgg, Sem.run_bind, run_underlying hu, Result.andThen]
  cases d <;> first | (cases hd; done) | (simp [hv])

theorem eqF_run {P : Program} {w : World} {g : Gh} {t : TypeId} {l l' : List V} {xs ys : Array Value} {off : Nat} {b : Bool} {d : Nat}
    (hx : ∀ (i : Nat) x u, l[i]? = some x → xs[i]? = some u → R g x u) (hy : ∀ (i : Nat) x u, l'[i]? = some x → ys[i]? = some u → R g x u) (h1 : l.length = xs.size) (h2 : l'.length = ys.size)
    (he : eqF P t (l.getD off .any) (l'.getD off .any) = some b) :
    ∃ u u', (part t xs off).run P w = .ok u w ∧ (part t ys off).run P w = .ok u' w ∧ (Op.equalIn (d + 1) t u u').run P w = .ok b w := by
  have get : ∀ {l : List V} {xs : Array Value}, (∀ (i : Nat) x u, l[i]? = some x → xs[i]? = some u → R g x u) → l.length = xs.size → l.getD off .any ≠ .any → ∃ u, xs[off]? = some u ∧ R g (l.getD off .any) u := by
    intro l xs hx h1 hne
    have hlt : off < l.length := by
      rcases Nat.lt_or_ge off l.length with h | h
      · exact h
      · exact absurd (by simp [h]) hne
    refine ⟨xs[off]'(h1 ▸ hlt), Array.getElem?_eq_getElem _, hx off _ _ ?_ (Array.getElem?_eq_getElem _)⟩
    simp [hlt]
  generalize hlx : l.getD off .any = lx at *
  generalize hly : l'.getD off .any = ly at *
  cases lx <;> cases ly <;> first | (cases he; done) | skip
  · rename_i i j
    obtain ⟨u, hu, hR⟩ := get hx h1 (by rw [hlx]; simp)
    obtain ⟨u', hu', hR'⟩ := get hy h2 (by rw [hly]; simp)
    rw [hlx] at hR; rw [hly] at hR'
    cases hR.bool_inv; cases hR'.bool_inv
    simp only [eqF] at he
    split at he
    · rename_i hun
      simp only [Option.some.injEq] at he; subst he
      exact ⟨_, _, part_run ⟨_, hun, rfl⟩ hu, part_run ⟨_, hun, rfl⟩ hu', by simp only [Op.equalIn, Sem.run_bind, run_underlying hun, Result.andThen]; rfl⟩
    · cases he
  · rename_i k i k' j
    obtain ⟨u, hu, hR⟩ := get hx h1 (by rw [hlx]; simp)
    obtain ⟨u', hu', hR'⟩ := get hy h2 (by rw [hly]; simp)
    rw [hlx] at hR; rw [hly] at hR'
    cases hR.int_inv; cases hR'.int_inv
    simp only [eqF] at he
    split at he
    · rename_i hun
      split at he
      · rename_i hk
        subst hk
        simp only [Option.some.injEq] at he; subst he
        exact ⟨_, _, part_run ⟨_, hun, rfl⟩ hu, part_run ⟨_, hun, rfl⟩ hu', by simp only [Op.equalIn, Sem.run_bind, run_underlying hun, Result.andThen, if_true]; rfl⟩
      · cases he
    · cases he

theorem eqFs_run {P : Program} {w : World} {g : Gh} {l l' : List V} {xs ys : Array Value} {d : Nat}
    (hx : ∀ (i : Nat) x u, l[i]? = some x → xs[i]? = some u → R g x u) (hy : ∀ (i : Nat) x u, l'[i]? = some x → ys[i]? = some u → R g x u) (h1 : l.length = xs.size) (h2 : l'.length = ys.size) :
    ∀ (fs : List Field) (b : Bool), eqFs P l l' fs = some b → (Op.eqFields (d + 1) xs ys fs).run P w = .ok b w
  | [], b, he => by simp [eqFs] at he; subst he; simp [Op.eqFields]
  | f :: fs, b, he => by
    simp only [eqFs] at he
    split at he
    · cases he
    · rename_i hn
      cases ha : eqF P f.type (l.getD f.offset .any) (l'.getD f.offset .any) with
      | none => rw [ha] at he; cases he
      | some p =>
        cases hb : eqFs P l l' fs with
        | none => rw [ha, hb] at he; cases he
        | some q =>
          rw [ha, hb] at he
          simp only [and2, Option.some.injEq] at he
          subst he
          obtain ⟨u, u', r1, r2, r3⟩ := eqF_run (w := w) (d := d) hx hy h1 h2 ha
          have ih := eqFs_run (w := w) (d := d) hx hy h1 h2 fs q hb
          simp only [Op.eqFields, ne_eq, hn, not_false_eq_true, if_true, Sem.run_bind, r1, r2, r3, Result.andThen]
          cases p <;> simp [ih]

theorem st_eqStruct (op : BinOp) (t : TypeId) (x y : Operand) (yt : TypeId) (ho : o.op = .binOp op t x y yt) {l l' : List V} (hx : eo cx T x = .agg l) (hy : eo cx T y = .agg l') {fs : List Field} (hf : sfs cx.P t = some fs) {b : Bool} (he : eqFs cx.P l l' fs = some b)
    (hop : op = .eql ∨ op = .neq) (hK : K (.bool (match op with | .eql => b | _ => !b)) h) : StepOk cx o T h K Kp := by
  intro g w0 own a w Q hG hT hH _
  obtain ⟨xs, ex, n1, r1⟩ := (hx ▸ eo_R hG hT x).agg_inv
  obtain ⟨ys, ey, n2, r2⟩ := (hy ▸ eo_R hG hT y).agg_inv
  unfold sfs at hf
  split at hf
  · rename_i fs' hu
    split at hf
    · rename_i hc
      simp only [Option.some.injEq] at hf
      subst hf
      have hfo : cx.P.fieldsOf t = fs' := by simp [Program.fieldsOf, hu]
      have hu' : cx.P.underlying t = some (.struct (cx.P.fieldsOf t)) := by rw [hfo]; exact hu
      have hrun := eqFs_run (P := cx.P) (w := w) (d := 9998) r1 r2 n1 n2 fs'.toList b he
      have heq : (Op.equalIn 10000 t (.agg xs) (.agg ys)).run cx.P w = .ok b w := by
        rw [run_equalIn_agg w 9999 t xs ys hu' hc.1, hfo]; exact hrun
      rcases hop with rfl | rfl
      · refine wp_val (u := .bool b) ?_ hK (.data (.bool _)) hH
        simp [execOp, ho, ex, ey, run_eqGuard_agg w .eql t x y xs ys hc.2, run_eql_struct, heq, Result.andThen]
      · refine wp_val (u := .bool !b) ?_ hK (.data (.bool _)) hH
        simp [execOp, ho, ex, ey, run_eqGuard_agg w .neq t x y xs ys hc.2, run_neq_struct, heq, Result.andThen]
    · cases hf
  · cases hf
end

/-- Where the fields of a row lie that can be compared, and whether they are truth values. -/
def fk (P : Program) (f : Field) : Option (Nat × Bool) :=
  if f.name = "_" then none else match P.underlying f.type with
    | some (.int _) => some (f.offset, false)
    | some .bool => some (f.offset, true)
    | _ => none
def fkL (P : Program) : List Field → Option (List (Nat × Bool))
  | [] => some []
  | f :: r => match fk P f, fkL P r with
    | some x, some l => some (x :: l)
    | _, _ => none
def eq1 : Bool → V → V → Option Bool
  | false, .int k i, .int k' j => if k = k' then some (i == j) else none
  | true, .bool i, .bool j => some (i == j)
  | _, _, _ => none
def eqK (l l' : List V) : List (Nat × Bool) → Option Bool
  | [] => some true
  | (off, b) :: r => and2 (eq1 b (l.getD off .any) (l'.getD off .any)) (eqK l l' r)
def sfk (P : Program) (t : TypeId) : Option (List (Nat × Bool)) := match sfs P t with
  | some fs => fkL P fs
  | none => none
theorem eqK_ok {P : Program} {l l' : List V} : ∀ {fs : List Field} {ks : List (Nat × Bool)} {b : Bool}, fkL P fs = some ks → eqK l l' ks = some b → eqFs P l l' fs = some b
  | [], ks, b, h, hb => by simp [fkL] at h; subst h; exact hb
  | f :: fs, ks, b, h, hb => by
    simp only [fkL] at h
    split at h
    · rename_i x r hx hr
      simp only [Option.some.injEq] at h
      subst h
      obtain ⟨off, bb⟩ := x
      simp only [eqK] at hb
      cases h1 : eq1 bb (l.getD off .any) (l'.getD off .any) with
      | none => rw [h1] at hb; cases hb
      | some p =>
        cases h2 : eqK l l' r with
        | none => rw [h1, h2] at hb; cases hb
        | some q =>
          rw [h1, h2] at hb
          have ih := eqK_ok hr h2
          unfold fk at hx
          split at hx
          · cases hx
          · rename_i hn
            simp only [eqFs, hn, if_false, ih]
            have : eqF P f.type (l.getD f.offset .any) (l'.getD f.offset .any) = some p := by
              split at hx
              · rename_i hu
                simp only [Option.some.injEq, Prod.mk.injEq] at hx
                obtain ⟨rfl, rfl⟩ := hx
                generalize l.getD f.offset .any = lx at *
                generalize l'.getD f.offset .any = ly at *
                cases lx <;> cases ly <;> first | (cases h1; done) | skip
                simp only [eqF, hu]; exact h1
              · rename_i hu
                simp only [Option.some.injEq, Prod.mk.injEq] at hx
                obtain ⟨rfl, rfl⟩ := hx
                generalize l.getD f.offset .any = lx at *
                generalize l'.getD f.offset .any = ly at *
                cases lx <;> cases ly <;> first | (cases h1; done) | skip
                simp only [eqF, hu]; exact h1
              · cases hx
            rw [this]; exact hb
    · cases h
end Go.Proofs.Ytlfnhbbgpifidaa.Sx
