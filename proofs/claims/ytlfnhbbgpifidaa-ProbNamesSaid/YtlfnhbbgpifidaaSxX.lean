/- Closed walks, by computation: code. -/
import Derived.Test.YtlfnhbbgpifidaaSxW
namespace Go.Proofs.Ytlfnhbbgpifidaa.Sx
set_option linter.unusedVariables false
set_option linter.unusedSimpArgs false
open Go.RowKit

/-- A value that is told outright. -/
noncomputable def forceV {α : Type} (v : V) (f : V → α) : α :=
  match v with
  | .int k (.ofNat n) => Nat.rec (motive := fun _ => α) (f (.int k (.ofNat 0))) (fun m _ => f (.int k (.ofNat (m + 1)))) n
  | .int k (.negSucc n) => Nat.rec (motive := fun _ => α) (f (.int k (.negSucc 0))) (fun m _ => f (.int k (.negSucc (m + 1)))) n
  | .bool true => f (.bool true)
  | .bool false => f (.bool false)
  | v => f v
theorem forceV_eq {α : Type} (v : V) (f : V → α) : forceV v f = f v := by
  unfold forceV
  split
  · rename_i k n; cases n <;> rfl
  · rename_i k n; cases n <;> rfl
  · rfl
  · rfl
  · rfl

noncomputable def putR (T : List V) : Option Tmp → V → List V
  | some d, v => setR v T d
  | none, _ => T
theorem putR_eq (T : List V) (d : Option Tmp) (v : V) : putR T d v = putT T d v := by cases d <;> simp [putR, putT, setR_eq]

abbrev Rn := Option (List V × List Blk)
abbrev Ev := List It → List V → List Blk → Rn

/-- The results. -/
noncomputable def resR (cx : Cx) (T : List V) (h : List Blk) : List ResultVar → Option (List V)
  | [] => some []
  | .tmp t :: r => match resR cx T h r with
    | some l => some (nthR T t :: l)
    | none => none
  | .cell a t :: r => match sc cx (.load t (.tmp a)) T h, resR cx T h r with
    | some (v, _), some l => some (v :: l)
    | _, _ => none
theorem resR_ok {cx : Cx} {T : List V} {h : List Blk} : ∀ {rs : List ResultVar} {l : List V}, resR cx T h rs = some l → (resL cx T h rs).1 = l ∧ (resL cx T h rs).2
  | [], l, e => by simp [resR] at e; subst e; exact ⟨rfl, trivial⟩
  | .tmp t :: r, l, e => by
    simp only [resR] at e
    split at e
    · rename_i l' hl
      obtain ⟨h1, h2⟩ := resR_ok hl
      simp only [Option.some.injEq] at e
      subst e
      exact ⟨by simp [resL, consC, h1, nthR_eq], trivial, h2⟩
    · cases e
  | .cell a t :: r, l, e => by
    simp only [resR] at e
    split at e
    · rename_i v h' l' hv hl
      obtain ⟨h1, h2⟩ := resR_ok hl
      obtain ⟨k1, k2, _⟩ := sc_ok hv
      simp only [Option.some.injEq] at e
      subst e
      have e1 : (resL cx T h (.cell a t :: r)).1 = (sxLoad h (T.getD a .any) (ti cx.P t)).1 :: (resL cx T h r).1 := rfl
      exact ⟨by rw [e1, h1]; exact congrArg (· :: l') k2, k1, h2⟩
    · cases e

noncomputable def callE (cx : Cx) (ih : Ev) (f : FuncId) (args : List V) (h : List Blk) : Sc :=
  match cx.P.funcs[f]? with
  | none => none
  | some fn => match fn.body with
    | none => none
    | some c => match fn.name == "runtime.NumGoroutine" with
      | true => none
      | false => match ih [.c c] (args ++ List.replicate (fn.ntmps - args.length) .any) h with
        | some (T', h') => match resR cx T' h' fn.results.toList with
          | some l => some (one1 l, h')
          | none => none
        | none => none

noncomputable def opE (cx : Cx) (ih : Ev) (op : Op) (T : List V) (h : List Blk) (K : V → List Blk → Rn) : Rn :=
  match op with
  | .call { callee := .value x, args := xs, .. } => match ec cx T x with
    | .func (.func n) fi ca => match callE cx ih n (fi ++ xs.toList.map (ec cx T) ++ ca) h with
      | some (v, h') => forceV v fun v => K v h'
      | none => none
    | _ => none
  | op => match silent op with
    | true => match sc cx op T h with
      | some (v, h') => forceV v fun v => K v h'
      | none => none
    | false => none

noncomputable def gdE (T : List V) (gd : Gd) (yes no : Rn) : Rn :=
  match gd with
  | none => yes
  | some (none, _) => none
  | some (some s, w) => match nthR T s, w with
    | .bool true, true => yes
    | .bool false, false => yes
    | .bool true, false => no
    | .bool false, true => no
    | _, _ => none

noncomputable def stepE (cx : Cx) (ih : Ev) : Ev
  | [], T, h => some (T, h)
  | .c .skip :: k, T, h => ih k T h
  | .c (.seq a b) :: k, T, h => ih (.c a :: .c b :: k) T h
  | .c (.region _ ops false) :: k, T, h => ih (.ops (slim ops.toList ops.toList) :: k) T h
  | .c (.region id ops true) :: k, T, h => match plan ops.toList, cx.P.follows .mixedOrders with
    | some t, true => ih (.pt t :: k) T h
    | _, _ => none
  | .c (.cond c a b) :: k, T, h => match ec cx T c with
    | .bool true => ih (.c a :: k) T h
    | .bool false => ih (.c b :: k) T h
    | _ => none
  | .c (.block id a) :: k, T, h => ih (.c a :: .b id :: k) T h
  | .c (.exit id) :: k, T, h => match pop id k with
    | some k' => ih k' T h
    | none => none
  | .c .ret :: _, T, h => some (T, h)
  | .c (.loop c) :: k, T, h => ih (.c c :: .lp c :: k) T h
  | .c _ :: _, _, _ => none
  | .b _ :: k, T, h => ih k T h
  | .lp c :: k, T, h => ih (.c c :: .lp c :: k) T h
  | .ops [] :: k, T, h => ih k T h
  | .ops (o :: r) :: k, T, h => gdE T o.gd (opE cx ih o.op T h fun v h' => ih (.ops r :: k) (putR T o.dst v) h') (ih (.ops r :: k) (putR T o.dst .any) h)
  | .pt .done :: k, T, h => ih k T h
  | .pt (.q d op gd nx) :: k, T, h => gdE T gd (match sc cx op T h with | some (v, _) => forceV v fun v => ih (.pt nx :: k) (putR T d v) h | none => none) (ih (.pt nx :: k) (putR T d .any) h)
  | .pt (.br d op gd [] nx .fin) :: k, T, h => gdE T gd (opE cx ih op T h fun v h' => ih (.pt nx :: k) (putR T d v) h') (ih (.pt nx :: k) (putR T d .any) h)
  | .pt _ :: _, _, _ => none
  | .ck _ :: _, _, _ => none

noncomputable def ev (cx : Cx) (n : Nat) : Ev := Nat.rec (motive := fun _ => Ev) (fun _ _ _ => none) (fun _ ih => stepE cx ih) n

/-- What a walk that is computed comes to. -/
def Good (cx : Cx) (ih : Ev) : Prop := ∀ k T h T' h', ih k T h = some (T', h') → ∀ Q : Po, Q.nx T' h' → Q.rt T' h' → (stk cx Q k).nx T h

theorem callE_ok {cx : Cx} {ih : Ev} (hi : Good cx ih) {f : FuncId} {args : List V} {h : List Blk} {v : V} {h' : List Blk} (e : callE cx ih f args h = some (v, h')) {K Kp : KV} (hK : K v h') : ACalls cx f args h K Kp := by
  unfold callE at e
  split at e
  · cases e
  · rename_i fn hf
    split at e
    · cases e
    · rename_i c hb
      split at e
      · cases e
      · rename_i hn
        split at e
        · rename_i T' h1 hr
          split at e
          · rename_i l hl
            simp only [Option.some.injEq, Prod.mk.injEq] at e
            obtain ⟨rfl, rfl⟩ := e
            obtain ⟨k1, k2⟩ := resR_ok hl
            have hret : retK K h1 (resL cx T' h1 fn.results.toList) := ⟨k2, by rw [k1]; exact hK⟩
            exact calls_of hf hb hn (hi _ _ _ _ _ hr (post cx fn h.length K Kp) hret hret)
          · cases e
        · cases e

theorem opE_ok {cx : Cx} {ih : Ev} (hi : Good cx ih) {op : Op} {T : List V} {h : List Blk} {N : V → List Blk → Rn} {T' : List V} {h' : List Blk} (e : opE cx ih op T h N = some (T', h')) :
    ∃ v h1, N v h1 = some (T', h') ∧ ∀ K Kp : KV, K v h1 → opA cx op T h K Kp := by
  have hec : ec cx T = eo cx T := funext (ec_eq cx T)
  have sil : (match silent op with | true => (match sc cx op T h with | some (v, h') => forceV v fun v => N v h' | none => none) | false => none) = some (T', h') →
      ∃ v h1, N v h1 = some (T', h') ∧ ∀ K Kp : KV, K v h1 → silent op = true ∧ (sx cx op T h).2.2 ∧ K (sx cx op T h).1 (sx cx op T h).2.1 := by
    intro e
    split at e
    · rename_i hs
      split at e
      · rename_i v h1 hv
        rw [forceV_eq] at e
        obtain ⟨k1, k2, k3⟩ := sc_ok hv
        exact ⟨v, h1, e, fun K Kp hK => ⟨hs, k1, by rw [k2, k3]; exact hK⟩⟩
      · cases e
    · cases e
  cases op with
  | call c =>
    obtain ⟨cal, xs, ts⟩ := c
    cases cal with
    | value x =>
      simp only [opE, hec] at e
      generalize hx : eo cx T x = xv at e
      split at e
      · rename_i n fi ca
        split at e
        · rename_i v h1 hv
          rw [forceV_eq] at e
          refine ⟨v, h1, e, fun K Kp hK => ?_⟩
          show callA cx _ h K Kp (eo cx T x)
          rw [hx]
          exact callE_ok hi hv hK
        · cases e
      · cases e
    | _ => exact sil e
  | _ => exact sil e

theorem gdE_ok {T : List V} {gd : Gd} {yes no : Rn} {x} {A B : Prop} (e : gdE T gd yes no = some x) (hy : yes = some x → A) (hn : no = some x → B) : gdV T gd A B := by
  unfold gdE at e
  split at e
  · exact hy e
  · cases e
  · rename_i s w
    rw [nthR_eq] at e
    split at e
    · rename_i hs; exact gdV_yes (.inr ⟨s, true, rfl, hs⟩) (hy e)
    · rename_i hs; exact gdV_yes (.inr ⟨s, false, rfl, hs⟩) (hy e)
    · rename_i hs; exact gdV_no hs (hn e)
    · rename_i hs; exact gdV_no hs (hn e)
    · cases e
end Go.Proofs.Ytlfnhbbgpifidaa.Sx
