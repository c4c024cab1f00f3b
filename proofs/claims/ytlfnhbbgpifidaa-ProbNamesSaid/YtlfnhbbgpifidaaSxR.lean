/- Regions whose operations may come in many orders: that the walk of the tree of orders suffices. -/
import Derived.Test.YtlfnhbbgpifidaaSxP
namespace Go.Proofs.Ytlfnhbbgpifidaa.Sx
set_option linter.unusedVariables false
set_option linter.unusedSimpArgs false
open Go.RowKit

/-! What the walk asks for. -/
def callA (cx : Cx) (args : List V) (h : List Blk) (K Kp : KV) : V → Prop
  | .func (.func n) fi ca => ACalls cx n (fi ++ args ++ ca) h K Kp
  | _ => False
def opA (cx : Cx) (op : Op) (T : List V) (h : List Blk) (K Kp : KV) : Prop :=
  match op with
  | .call { callee := .value x, args := xs, .. } => callA cx (xs.toList.map (eo cx T)) h K Kp (eo cx T x)
  | op => silent op = true ∧ (sx cx op T h).2.2 ∧ K (sx cx op T h).1 (sx cx op T h).2.1

theorem opA_ok {cx : Cx} {o : Oper} {T T' : List V} {h : List Blk} {K Kp : KV} (ha : Agree T T' o.op.operands.toList) (hc : opA cx o.op T h K Kp) : StepOk cx o T' h K Kp := by
  unfold opA at hc
  split at hc
  · rename_i x xs ts hop
    rw [hop] at ha
    have e1 : eo cx T x = eo cx T' x := ha.eo (by simp [Op.operands, Call.operands])
    have e2 : xs.toList.map (eo cx T) = xs.toList.map (eo cx T') := ha.map (fun y hy => by simp [Op.operands, Call.operands]; exact .inr (by simpa using hy))
    rw [e2, e1] at hc
    generalize hx : eo cx T' x = xv at hc
    cases xv with
    | func f fi ca =>
      cases f with
      | func n => exact st_call x xs ts hop hx hc
      | _ => exact False.elim hc
    | _ => exact False.elim hc
  · obtain ⟨_, h1, h2⟩ := hc
    rw [sx_congr ha] at h1 h2
    refine (sx_ok (Kp := Kp) h1).mono ?_ (fun _ _ h => h)
    rintro v h' ⟨rfl, rfl⟩
    exact h2

def gdV (T : List V) (gd : Gd) (yes no : Prop) : Prop :=
  match gd with
  | none => yes
  | some (none, _) => False
  | some (some s, w) => (T.getD s .any).isB = true ∧ (if (T.getD s .any).tst = w then yes else no)

theorem gdV_cases {T : List V} {gd : Gd} {yes no : Prop} (h : gdV T gd yes no) : (gd = none ∧ yes) ∨ ∃ s w, gd = some (some s, w) ∧ ((T.getD s .any = .bool w ∧ yes) ∨ (T.getD s .any = .bool !w ∧ no)) := by
  unfold gdV at h
  split at h
  · exact .inl ⟨rfl, h⟩
  · exact h.elim
  · rename_i s w
    obtain ⟨h1, h2⟩ := h
    refine .inr ⟨s, w, rfl, ?_⟩
    generalize T.getD s .any = x at *
    cases x <;> first | (cases h1; done) | skip
    rename_i b
    cases b <;> cases w <;> first | exact .inl ⟨rfl, h2⟩ | exact .inr ⟨rfl, h2⟩
theorem gdV_yes {T : List V} {gd : Gd} {yes no : Prop} (h : gd = none ∨ ∃ s w, gd = some (some s, w) ∧ T.getD s .any = .bool w) (hy : yes) : gdV T gd yes no := by
  rcases h with rfl | ⟨s, w, rfl, h⟩
  · exact hy
  · show _ ∧ _
    rw [h]; cases w <;> exact ⟨rfl, hy⟩
theorem gdV_no {T : List V} {s w} {yes no : Prop} (h : T.getD s .any = .bool !w) (hn : no) : gdV T (some (some s, w)) yes no := by
  show _ ∧ _
  rw [h]; cases w <;> exact ⟨rfl, hn⟩

/-- The value that a slot holds is what the operation comes to. -/
def ckV (cx : Cx) (op : Op) (dst : Option Tmp) (T : List V) (h : List Blk) : Prop :=
  (sx cx op T h).2.2 ∧ match dst with
    | some d => T.getD d .any = (sx cx op T h).1
    | none => True
def ckA (cx : Cx) (c : CK) (T : List V) (h : List Blk) : Prop := gdV T c.gd (ckV cx c.op c.dst T h) True
def ckL (cx : Cx) : List CK → List V → List Blk → Prop
  | [], _, _ => True
  | c :: r, T, h => ckA cx c T h ∧ ckL cx r T h
theorem ckL_mem {cx : Cx} {T h} : ∀ {l : List CK}, ckL cx l T h → ∀ c ∈ l, ckA cx c T h
  | [], _, c, hc => by cases hc
  | x :: r, hl, c, hc => by
    rcases List.mem_cons.1 hc with rfl | hc
    · exact hl.1
    · exact ckL_mem hl.2 c hc

def runT (cx : Cx) (K : KT) (Kp : KV) : PT → List V → List Blk → Prop
  | .bad, _, _ => False
  | .fin, _, _ => True
  | .done, T, h => K T h
  | .q dst op gd nx, T, h => gdV T gd ((sx cx op T h).2.2 ∧ runT cx K Kp nx (putT T dst (sx cx op T h).1) h) (runT cx K Kp nx (putT T dst .any) h)
  | .br dst op gd ck nx ot, T, h =>
    gdV T gd (opA cx op T h (fun v h' => ckL cx ck (putT T dst v) h' ∧ runT cx K Kp nx (putT T dst v) h') Kp) (ckL cx ck (putT T dst .any) h ∧ runT cx K Kp nx (putT T dst .any) h) ∧ runT cx K Kp ot T h

/-! What must come before. -/
def Anc (ops : List Oper) (t : List (Nat × Nat)) : Prop :=
  ∀ L : Nat → Prop, (∀ i, L i → ∀ d ∈ depsAt ops i, L d) → ∀ i, (∀ d ∈ depsAt ops i, L d) → ∀ k, (ancOf t i).testBit k = true → L k

theorem ancB_ok (ops : List Oper) : ∀ (l : List Nat) (t : List (Nat × Nat)), Anc ops t → Anc ops (ancB ops l t)
  | [], t, ht => ht
  | i :: r, t, ht => by
    refine ancB_ok ops r _ ?_
    intro L hL j hj k hk
    unfold ancOf at hk
    rw [List.lookup_cons] at hk
    split at hk
    · rename_i m hm
      split at hm
      · rename_i e
        have e' : j = i := eq_of_beq e
        subst e'
        simp only [Option.some.injEq] at hm
        subst hm
        have gen : ∀ (ds : List Nat) (m : Nat), (ds.foldl (fun m d => m ||| (1 <<< d) ||| ancOf t d) m).testBit k = true → m.testBit k = true ∨ ∃ d ∈ ds, k = d ∨ (ancOf t d).testBit k = true := by
          intro ds
          induction ds with
          | nil => intro m h; exact .inl h
          | cons d ds ih =>
            intro m h
            rcases ih _ h with h | ⟨d', hd', h⟩
            · simp only [Nat.testBit_or, Bool.or_eq_true] at h
              rcases h with (h | h) | h
              · exact .inl h
              · refine .inr ⟨d, by simp, .inl ?_⟩
                rw [Nat.one_shiftLeft, Nat.testBit_two_pow] at h
                simpa using (of_decide_eq_true h).symm
              · exact .inr ⟨d, by simp, .inr h⟩
            · exact .inr ⟨d', by simp [hd'], h⟩
        rcases gen _ _ hk with h | ⟨d, hd, rfl | h⟩
        · simp at h
        · exact hj _ hd
        · exact ht L hL d (hL d (hj d hd)) k h
      · have : ancOf t j = m := by unfold ancOf; rw [hm]
        exact ht L hL j hj k (by rw [this]; exact hk)
    · simp at hk
theorem anc_nil (ops : List Oper) : Anc ops [] := by
  intro L hL i hi k hk; simp [ancOf] at hk
end Go.Proofs.Ytlfnhbbgpifidaa.Sx
