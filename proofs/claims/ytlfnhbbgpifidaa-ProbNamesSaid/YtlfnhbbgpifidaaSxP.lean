/- Regions whose operations may come in many orders: what the walk of a tree of orders asks for, and that the facts of an operation depend on its operands alone. -/
import Derived.Test.YtlfnhbbgpifidaaSxO
import Derived.Test.YtlfnhbbgpifidaaSxL
namespace Go.Proofs.Ytlfnhbbgpifidaa.Sx
set_option linter.unusedVariables false
set_option linter.unusedSimpArgs false
open Go.RowKit

theorem eo_congr {cx : Cx} {T T' : List V} {x : Operand} (h : ∀ t ∈ tmpsOf [x], T.getD t .any = T'.getD t .any) : eo cx T x = eo cx T' x := by
  cases x with
  | tmp t => exact h t (by simp [tmpsOf])
  | _ => rfl
theorem tmpsOf_mem {t : Tmp} : ∀ {l : List Operand}, t ∈ tmpsOf l ↔ Operand.tmp t ∈ l
  | [] => by simp [tmpsOf]
  | .tmp s :: r => by simp [tmpsOf, tmpsOf_mem (l := r)]
  | .const v :: r => by simp [tmpsOf, tmpsOf_mem (l := r)]
  | .global i :: r => by simp [tmpsOf, tmpsOf_mem (l := r)]
  | .func f :: r => by simp [tmpsOf, tmpsOf_mem (l := r)]
def Agree (T T' : List V) (l : List Operand) : Prop := ∀ t, Operand.tmp t ∈ l → T.getD t .any = T'.getD t .any
theorem Agree.eo {cx : Cx} {T T' : List V} {l : List Operand} (h : Agree T T' l) {x : Operand} (hx : x ∈ l) : Sx.eo cx T x = Sx.eo cx T' x := by
  refine eo_congr fun t ht => h t ?_
  cases x with
  | tmp s => simp [tmpsOf] at ht; subst ht; exact hx
  | _ => simp [tmpsOf] at ht
theorem Agree.mem {cx : Cx} {T T' : List V} {l : List Operand} (h : Agree T T' l) : ∀ x ∈ l, Sx.eo cx T x = Sx.eo cx T' x := fun _ => h.eo
theorem Agree.map {cx : Cx} {T T' : List V} {l m : List Operand} (h : Agree T T' l) (hs : ∀ x ∈ m, x ∈ l) : m.map (Sx.eo cx T) = m.map (Sx.eo cx T') :=
  List.map_congr_left fun x hx => h.eo (hs x hx)
theorem Agree.mapP {cx : Cx} {T T' : List V} {l : List Operand} {m : List (Nat × Operand)} (h : Agree T T' l) (hs : ∀ p ∈ m, p.2 ∈ l) : (m.map fun p => (p.1, Sx.eo cx T p.2)) = m.map fun p => (p.1, Sx.eo cx T' p.2) :=
  List.map_congr_left fun p hp => by rw [h.eo (hs p hp)]
theorem Agree.mapQ {cx : Cx} {T T' : List V} {l : List Operand} {m : List (Nat × Operand)} (h : Agree T T' l) (hs : ∀ p ∈ m, p.2 ∈ l) : (m.map fun p => Sx.eo cx T p.2) = m.map fun p => Sx.eo cx T' p.2 :=
  List.map_congr_left fun p hp => by rw [h.eo (hs p hp)]

/-- What an operation comes to depends on its operands alone. -/
theorem sx_congr {cx : Cx} {T T' : List V} {h : List Blk} {op : Op} (ha : Agree T T' op.operands.toList) : sx cx op T h = sx cx op T' h := by
  cases op with
  | build t ps =>
    have e := ha.mapP (cx := cx) (m := ps.toList) (fun p hp => by simp [Op.operands]; exact ⟨p.1, by simpa using hp⟩)
    simp only [sx, e]
  | buildSlice t n ps =>
    have e := ha.mapP (cx := cx) (m := ps.toList) (fun p hp => by simp [Op.operands]; exact ⟨p.1, by simpa using hp⟩)
    have e' := ha.mapQ (cx := cx) (m := ps.toList) (fun p hp => by simp [Op.operands]; exact ⟨p.1, by simpa using hp⟩)
    simp only [sx, e, e']
  | makeFunc f xs ys =>
    have e := ha.map (cx := cx) (m := xs.toList) (fun p hp => by simp [Op.operands]; exact .inl (by simpa using hp))
    have e' := ha.map (cx := cx) (m := ys.toList) (fun p hp => by simp [Op.operands]; exact .inr (by simpa using hp))
    simp only [sx, e, e']
  | call c =>
    obtain ⟨cal, ⟨al⟩, ⟨tl⟩⟩ := c
    have e := ha.mem (cx := cx)
    simp only [sx]
    unfold sxCall
    simp only [Op.operands, Call.operands] at e
    split
    · rename_i x t
      rw [e x (by simp)]
    · rename_i x y
      rw [e x (by simp), e y (by simp)]
    · rename_i x y
      rw [e x (by simp), e y (by simp)]
    · rename_i x y t t'
      rw [e x (by simp), e y (by simp)]
    · rfl
  | unOp o t x =>
    have e := ha.eo (cx := cx) (x := x) (by simp [Op.operands])
    cases o <;> simp only [sx, e]
  | slice t x lo hi mx => rfl
  | makeMap t r => rfl
  | select cs b => rfl
  | go c => rfl
  | defer c => rfl
  | _ =>
    have e := ha.mem (cx := cx)
    simp only [Op.operands, List.mem_cons, List.not_mem_nil, or_false, forall_eq_or_imp, forall_eq, Array.toList_empty, List.forall_mem_nil] at e
    first | rfl | (simp only [sx, e]) | (obtain ⟨e1, e2⟩ := e; simp only [sx, e1, e2]) | (obtain ⟨e1, e2, e3⟩ := e; simp only [sx, e1, e2, e3])

theorem stOf_h {h h' : List Blk} {p : Prop} {x : V × Prop} : (stOf h p x).1 = (stOf h' p x).1 ∧ ((stOf h p x).2.2 = (stOf h' p x).2.2) ∧ (stOf h p x).2.1 = h := ⟨rfl, rfl, rfl⟩

/-- An operation that leaves the memory as it is. -/
theorem sx_quiet {cx : Cx} {T : List V} {h : List Blk} {op : Op} (hq : quiet op = true) (hc : (sx cx op T h).2.2) : (sx cx op T h).2.1 = h := by
  cases op <;> first | (cases hq; done) | skip
  case load t x =>
    simp only [sx] at hc ⊢
    unfold sxLoad at hc ⊢
    split <;> rfl
  case unOp o t x => cases o <;> first | (cases hq; done) | (simp only [sx]; first | (unfold sxNot; split <;> rfl) | (unfold sxNeg; split <;> rfl))
  case call c =>
    obtain ⟨cal, ⟨al⟩, ⟨tl⟩⟩ := c
    cases cal <;> first | (cases hq; done) | skip
    rename_i b
    cases b <;> first | (cases hq; done) | skip
    · match al, tl with
      | [x], [t] => simp only [sx, sxCall]; unfold sxLen; split <;> rfl
      | [], _ => rfl
      | _ :: _ :: _, _ => rfl
      | [_], [] => rfl
      | [_], _ :: _ :: _ => rfl
    · match al with
      | [x, y] => simp only [sx, sxCall]; unfold sxMax; split <;> rfl
      | [] => rfl
      | [_] => rfl
      | _ :: _ :: _ :: _ => rfl
    · match al with
      | [x, y] => simp only [sx, sxCall]; unfold sxMin; split <;> rfl
      | [] => rfl
      | [_] => rfl
      | _ :: _ :: _ :: _ => rfl
  case pick c x y => simp only [sx]; unfold sxPick; split <;> rfl
  case fieldAddr s x f => simp only [sx]; unfold sxFieldAddr; split <;> rfl
  case field s x f => simp only [sx]; unfold sxField; split <;> rfl
  case index s x f => simp only [sx]; unfold sxIndex; split <;> rfl
  case indexAddr s x f => simp only [sx]; unfold sxIndexAddr; split <;> rfl
  case binOp op t x y yt =>
    simp only [sx]; unfold sxBin
    split
    · cases op <;> rfl
    · cases op <;> rfl
    · cases op <;> rfl
    · unfold sxEqA; split <;> rfl
    · cases op <;> rfl
  case extract x n => simp only [sx]; unfold sxExtract; split <;> rfl
  all_goals rfl

/-- One that doesn't look into it either. -/
theorem sx_pure {cx : Cx} {T : List V} {h h' : List Blk} {op : Op} (hq : quiet op = true) (hl : looks op = false) : (sx cx op T h).1 = (sx cx op T h').1 ∧ (sx cx op T h).2.2 = (sx cx op T h').2.2 := by
  cases op <;> first | (cases hq; done) | (cases hl; done) | skip
  case unOp o t x => cases o <;> first | (cases hq; done) | (simp only [sx]; first | (unfold sxNot; split <;> exact ⟨rfl, rfl⟩) | (unfold sxNeg; split <;> exact ⟨rfl, rfl⟩))
  case call c =>
    obtain ⟨cal, ⟨al⟩, ⟨tl⟩⟩ := c
    cases cal <;> first | (cases hq; done) | skip
    rename_i b
    cases b <;> first | (cases hq; done) | skip
    · match al, tl with
      | [x], [t] => simp only [sx, sxCall]; unfold sxLen; split <;> exact ⟨rfl, rfl⟩
      | [], _ => exact ⟨rfl, rfl⟩
      | _ :: _ :: _, _ => exact ⟨rfl, rfl⟩
      | [_], [] => exact ⟨rfl, rfl⟩
      | [_], _ :: _ :: _ => exact ⟨rfl, rfl⟩
    · match al with
      | [x, y] => simp only [sx, sxCall]; unfold sxMax; split <;> exact ⟨rfl, rfl⟩
      | [] => exact ⟨rfl, rfl⟩
      | [_] => exact ⟨rfl, rfl⟩
      | _ :: _ :: _ :: _ => exact ⟨rfl, rfl⟩
    · match al with
      | [x, y] => simp only [sx, sxCall]; unfold sxMin; split <;> exact ⟨rfl, rfl⟩
      | [] => exact ⟨rfl, rfl⟩
      | [_] => exact ⟨rfl, rfl⟩
      | _ :: _ :: _ :: _ => exact ⟨rfl, rfl⟩
  case pick c x y => simp only [sx]; unfold sxPick; split <;> exact ⟨rfl, rfl⟩
  case fieldAddr s x f => simp only [sx]; unfold sxFieldAddr; split <;> exact ⟨rfl, rfl⟩
  case field s x f => simp only [sx]; unfold sxField; split <;> exact ⟨rfl, rfl⟩
  case index s x f => simp only [sx]; unfold sxIndex; split <;> exact ⟨rfl, rfl⟩
  case indexAddr s x f => simp only [sx]; unfold sxIndexAddr; split <;> exact ⟨rfl, rfl⟩
  case binOp op t x y yt =>
    simp only [sx]; unfold sxBin
    split
    · cases op <;> exact ⟨rfl, rfl⟩
    · cases op <;> exact ⟨rfl, rfl⟩
    · cases op <;> exact ⟨rfl, rfl⟩
    · unfold sxEqA; split <;> exact ⟨rfl, rfl⟩
    · cases op <;> exact ⟨rfl, rfl⟩
  case extract x n => simp only [sx]; unfold sxExtract; split <;> exact ⟨rfl, rfl⟩
  case build t ps =>
    simp only [sx]
    generalize bldO (plOf cx t (el cx.P t) (plS cx.P t)) (zer cx.P t) (ps.toList.map fun p => (p.1, eo cx T p.2)) = z
    cases z <;> exact ⟨rfl, rfl⟩
  case convert s d x =>
    simp only [sx]
    generalize eo cx T x = v
    generalize intT (cx.P.underlying d) = k
    cases v <;> cases k <;> exact ⟨rfl, rfl⟩
  all_goals exact ⟨rfl, rfl⟩
end Go.Proofs.Ytlfnhbbgpifidaa.Sx
