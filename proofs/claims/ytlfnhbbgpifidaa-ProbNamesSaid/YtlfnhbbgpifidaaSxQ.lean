/- Code on abstract states, as a stack; that what the walk asks for suffices. -/
import Derived.Test.YtlfnhbbgpifidaaSxU
namespace Go.Proofs.Ytlfnhbbgpifidaa.Sx
set_option linter.unusedVariables false
set_option linter.unusedSimpArgs false
open Go.RowKit

/-! The stack. -/
/-- An operation without what the walk doesn't ask for. -/
structure SO where
  dst : Option Tmp
  op : Op
  gd : Option (Option Tmp × Bool)

def gdOf (all : List Oper) : Option (Nat × Bool) → Option (Option Tmp × Bool)
  | none => none
  | some (j, w) => some (gslot all j, w)
def slim (all : List Oper) : List Oper → List SO
  | [] => []
  | o :: r => ⟨o.dst, o.op, gdOf all o.guard⟩ :: slim all r

inductive It where
  | c (c : Code)
  | b (id : Nat)
  | ops (l : List SO)
  | pt (t : PT)
  | ck (l : List CK)
  | lp (c : Code)

def pop (id : Nat) : List It → Option (List It)
  | [] => none
  | .b i :: k => if i = id then some k else pop id k
  | _ :: k => pop id k

abbrev FK := List It → List V → List Blk → Prop

def exK (F : FK) (Q : Po) (id : Nat) : Option (List It) → List V → List Blk → Prop
  | some k, T, h => F k T h
  | none, T, h => Q.ex id T h

/-- What follows a loop, or a region, that stands on a stack. -/
def poK (F : FK) (Q : Po) (k : List It) : Po where
  n := Q.n
  nx := fun T h => F k T h
  ex := fun id T h => exK F Q id (pop id k) T h
  rt := Q.rt
  pn := Q.pn

/-- Pieces that the walk leaves as they are. -/
def CodeS (cx : Cx) (F : FK) (Q : Po) (c : Code) (k : List It) (T : List V) (h : List Blk) : Prop := AW cx c (poK F Q k) T h
def CallS (cx : Cx) (F : FK) (Q : Po) (f : FuncId) (args : List V) (dst : Option Tmp) (r : List SO) (k : List It) (T : List V) (h : List Blk) : Prop :=
  ACalls cx f args h (fun v h' => F (.ops r :: k) (putT T dst v) h') (fun v h' => Q.pn T v h')
def StepS (cx : Cx) (F : FK) (Q : Po) (op : Op) (dst : Option Tmp) (r : List SO) (k : List It) (T : List V) (h : List Blk) : Prop :=
  ∀ o : Oper, o.op = op → StepOk cx o T h (fun v h' => F (.ops r :: k) (putT T dst v) h') (fun v h' => Q.pn T v h')

def sxK (F : FK) (dst : Option Tmp) (r : List SO) (k : List It) (T : List V) : St → Prop
  | (v, h, c) => c ∧ F (.ops r :: k) (putT T dst v) h

def callK (cx : Cx) (F : FK) (Q : Po) (op : Op) (args : List V) (dst : Option Tmp) (r : List SO) (k : List It) (T : List V) (h : List Blk) : V → Prop
  | .func (.func n) fi ca => CallS cx F Q n (fi ++ args ++ ca) dst r k T h
  | _ => False

def opK (cx : Cx) (F : FK) (Q : Po) (op : Op) (dst : Option Tmp) (r : List SO) (k : List It) (T : List V) (h : List Blk) : Prop :=
  match op with
  | .call { callee := .value x, args := xs, .. } => callK cx F Q op (xs.toList.map (eo cx T)) dst r k T h (eo cx T x)
  | op => if silent op = true then sxK F dst r k T (sx cx op T h) else StepS cx F Q op dst r k T h

def gdK (cx : Cx) (F : FK) (Q : Po) (op : Op) (dst : Option Tmp) (r : List SO) (k : List It) (T : List V) (h : List Blk) : Option (Option Tmp × Bool) → Prop
  | none => opK cx F Q op dst r k T h
  | some (none, _) => False
  | some (some s, w) => (T.getD s .any).isB = true ∧ (if (T.getD s .any).tst = w then opK cx F Q op dst r k (T.set s (.bool w)) h else F (.ops r :: k) (putT (T.set s (.bool !w)) dst .any) h)

/-! Regions of many orders. -/
def sxP (F : FK) (dst : Option Tmp) (nx : PT) (k : List It) (T : List V) (h : List Blk) : St → Prop
  | (v, _, c) => c ∧ F (.pt nx :: k) (putT T dst v) h
def qK (cx : Cx) (F : FK) (op : Op) (dst : Option Tmp) (nx : PT) (k : List It) (T : List V) (h : List Blk) : Gd → Prop
  | none => sxP F dst nx k T h (sx cx op T h)
  | some (none, _) => False
  | some (some s, w) => (T.getD s .any).isB = true ∧ (if (T.getD s .any).tst = w then sxP F dst nx k (T.set s (.bool w)) h (sx cx op (T.set s (.bool w)) h) else F (.pt nx :: k) (putT (T.set s (.bool !w)) dst .any) h)
def allP (Q : Po) : Po := { Q with pn := fun _ v h => ∀ T, Q.pn T v h }
def opP (cx : Cx) (F : FK) (Q : Po) (op : Op) (dst : Option Tmp) (k : List It) (T : List V) (h : List Blk) : Prop :=
  match op with
  | .call { callee := .value x, args := xs, .. } => callK cx F (allP Q) op (xs.toList.map (eo cx T)) dst [] k T h (eo cx T x)
  | op => silent op = true ∧ sxK F dst [] k T (sx cx op T h)
def gdP (cx : Cx) (F : FK) (Q : Po) (op : Op) (dst : Option Tmp) (k : List It) (T : List V) (h : List Blk) : Gd → Prop
  | none => opP cx F Q op dst k T h
  | some (none, _) => False
  | some (some s, w) => (T.getD s .any).isB = true ∧ (if (T.getD s .any).tst = w then opP cx F Q op dst k (T.set s (.bool w)) h else F k (putT (T.set s (.bool !w)) dst .any) h)
def ptK (cx : Cx) (F : FK) (Q : Po) (c : Code) (k : List It) (T : List V) (h : List Blk) : Option PT → Prop
  | some t => cx.P.follows .mixedOrders = true ∧ F (.pt t :: k) T h
  | none => CodeS cx F Q c k T h

def vk (cx : Cx) (Q : Po) : Nat → List It → List V → List Blk → Prop
  | _, [], T, h => Q.nx T h
  | 0, _, _, _ => False
  | n + 1, .c .skip :: k, T, h => vk cx Q n k T h
  | n + 1, .c (.seq a b) :: k, T, h => vk cx Q n (.c a :: .c b :: k) T h
  | n + 1, .c (.region _ ops false) :: k, T, h => vk cx Q n (.ops (slim ops.toList ops.toList) :: k) T h
  | n + 1, .c (.region id ops true) :: k, T, h => ptK cx (vk cx Q n) Q (.region id ops true) k T h (plan ops.toList)
  | n + 1, .c (.cond c a b) :: k, T, h => (eo cx T c).isB = true ∧ (if (eo cx T c).tst = true then vk cx Q n (.c a :: k) T h else vk cx Q n (.c b :: k) T h)
  | n + 1, .c (.block id a) :: k, T, h => vk cx Q n (.c a :: .b id :: k) T h
  | n + 1, .c (.exit id) :: k, T, h => exK (vk cx Q n) Q id (pop id k) T h
  | _ + 1, .c .ret :: _, T, h => Q.rt T h
  | n + 1, .c c :: k, T, h => CodeS cx (vk cx Q n) Q c k T h
  | n + 1, .b _ :: k, T, h => vk cx Q n k T h
  | n + 1, .ops [] :: k, T, h => vk cx Q n k T h
  | n + 1, .ops (o :: r) :: k, T, h => gdK cx (vk cx Q n) Q o.op o.dst r k T h o.gd
  | _ + 1, .pt .bad :: _, _, _ => False
  | _ + 1, .pt .fin :: _, _, _ => True
  | n + 1, .pt .done :: k, T, h => vk cx Q n k T h
  | n + 1, .pt (.q d op gd nx) :: k, T, h => qK cx (vk cx Q n) op d nx k T h gd
  | n + 1, .pt (.br d op gd ck nx ot) :: k, T, h => gdP cx (vk cx Q n) Q op d (.ck ck :: .pt nx :: k) T h gd ∧ vk cx Q n (.pt ot :: k) T h
  | n + 1, .ck l :: k, T, h => ckL cx l T h ∧ vk cx Q n k T h
  | n + 1, .lp c :: k, T, h => vk cx Q n (.c c :: .lp c :: k) T h

/-- That a loop does what follows, from the beginning of a round. -/
def LoopIn (P : Program) (c : Code) (Q : Exit → Act → World → Prop) (a : Act) (w : World) : Prop :=
  ∀ (b : Frame) (k : List Item) (cs : List Frame), ∃ e a' w', Q e a' w' ∧ Arrives P (lone (b.at a (.code c :: .inLoop c :: k)) cs w) b k cs e a' w'
theorem LoopIn.loop {P : Program} {c : Code} {Q : Exit → Act → World → Prop} {a : Act} {w : World} (h : LoopIn P c Q a w) : (Code.loop c).wp P Q a w := fun b k cs =>
  let ⟨e, a', w', hq, harr⟩ := h b k cs
  ⟨e, a', w', hq, .of_steps (.one step_loop) harr⟩
theorem LoopIn.round {P : Program} {c : Code} {Q : Exit → Act → World → Prop} {a : Act} {w : World} (h : c.wp P (Exit.then (LoopIn P c Q) Q) a w) : LoopIn P c Q a w := by
  intro b k cs
  obtain ⟨e, a₁, w₁, hq, harr⟩ := h b (.inLoop c :: k) cs
  cases e with
  | normal =>
    obtain ⟨e₂, a₂, w₂, hq₂, harr₂⟩ := hq b k cs
    exact ⟨e₂, a₂, w₂, hq₂, .of_steps (Steps.trans harr (.one step_inLoop)) harr₂⟩
  | exit id => exact ⟨_, a₁, w₁, hq, .pass (x := .inLoop c) rfl (fun _ _ => .inl (by simp)) harr⟩
  | goto l => exact ⟨_, a₁, w₁, hq, .pass (x := .inLoop c) rfl (fun _ _ => .inl (by simp)) harr⟩
  | ret => exact ⟨_, a₁, w₁, hq, .pass (x := .inLoop c) rfl (fun _ _ => .inl (by simp)) harr⟩
  | panic ch => exact ⟨_, a₁, w₁, hq, .pass (x := .inLoop c) rfl (fun _ _ => .inl (by simp)) harr⟩
  | outgrown => exact ⟨_, a₁, w₁, hq, .pass (x := .inLoop c) rfl (fun _ _ => .inl (by simp)) harr⟩
theorem LoopIn.mono {P : Program} {c : Code} {Q Q' : Exit → Act → World → Prop} {a : Act} {w : World} (h : LoopIn P c Q a w) (hq : ∀ e a w, Q e a w → Q' e a w) : LoopIn P c Q' a w :=
  fun b k cs => let ⟨e, a', w', q, r⟩ := h b k cs; ⟨e, a', w', hq _ _ _ q, r⟩

/-- The ends of a piece of code, told of the model's states. -/
def Ends (cx : Cx) (Q : Po) (g : Gh) (w0 : Base) (own : Nat → Prop) (df : List Deferred) : Exit → Act → World → Prop
  | .normal, a, w => Then cx Q.n g w0 own df Q.nx a w
  | .exit i, a, w => Then cx Q.n g w0 own df (Q.ex i) a w
  | .ret, a, w => Then cx Q.n g w0 own df Q.rt a w
  | .panic ch, a, w => ThenP cx Q.n g w0 own df Q.pn ch a w
  | _, _, _ => False
theorem Ends.mono {cx : Cx} {Q : Po} {g g' : Gh} {w0 own df} (hg : Gh.leN Q.n g g') {e a w} (h : Ends cx Q g' w0 own df e a w) : Ends cx Q g w0 own df e a w := by
  cases e with
  | normal => exact Then.mono hg (fun _ _ h => h) h
  | exit i => exact Then.mono hg (fun _ _ h => h) h
  | ret => exact Then.mono hg (fun _ _ h => h) h
  | panic ch => exact ThenP.mono hg (fun _ _ _ h => h) h
  | goto l => exact h
  | outgrown => exact h
theorem AW.ends {cx : Cx} {c : Code} {Q : Po} {T h g w0 own df a w} (hw : AW cx c Q T h) (hh : Here cx g w0 own df T h a w) : c.wp cx.P (Ends cx Q g w0 own df) a w := by
  refine wp_mono (hw g w0 own df a w hh) ?_
  intro e a w he
  cases e <;> exact he
def AL (cx : Cx) (c : Code) (Q : Po) (T : List V) (h : List Blk) : Prop :=
  ∀ g w0 own df a w, Here cx g w0 own df T h a w → LoopIn cx.P c (Ends cx Q g w0 own df) a w
theorem AL.loop {cx : Cx} {c : Code} {Q : Po} {T h} (hl : AL cx c Q T h) : AW cx (.loop c) Q T h := by
  intro g w0 own df a w hh
  refine wp_mono (hl g w0 own df a w hh).loop ?_
  intro e a w he
  cases e <;> exact he
theorem AL.round {cx : Cx} {c : Code} {Q : Po} {T h} (hw : AW cx c { Q with nx := fun T h => AL cx c Q T h } T h) : AL cx c Q T h := by
  intro g w0 own df a w hh
  refine LoopIn.round (wp_mono (hw.ends hh) ?_)
  intro e a w he
  cases e with
  | normal =>
    obtain ⟨g', T', h', hle, hk, hh'⟩ := he
    exact (hk g' w0 own df a w hh').mono fun e a w he => Ends.mono (Q := Q) hle he
  | exit i => exact he
  | ret => exact he
  | panic ch => exact he
  | goto l => exact he
  | outgrown => exact he

/-- What a stack means. -/
def stk (cx : Cx) (Q : Po) : List It → Po
  | [] => Q
  | .c c :: k => { stk cx Q k with nx := fun T h => AW cx c (stk cx Q k) T h }
  | .b id :: k => { stk cx Q k with ex := fun i T h => if i = id then (stk cx Q k).nx T h else (stk cx Q k).ex i T h }
  | .ops l :: k => { stk cx Q k with nx := fun T h => ∀ all rest, slim all rest = l → run cx all rest T h (stk cx Q k).nx (stk cx Q k).pn }
  | .pt t :: k => { stk cx Q k with nx := fun T h => runT cx (stk cx Q k).nx (fun v h => ∀ T, (stk cx Q k).pn T v h) t T h }
  | .ck l :: k => { stk cx Q k with nx := fun T h => ckL cx l T h ∧ (stk cx Q k).nx T h }
  | .lp c :: k => { stk cx Q k with nx := fun T h => AL cx c (stk cx Q k) T h }

theorem stk_rt (cx Q) : ∀ k, (stk cx Q k).rt = Q.rt
  | [] => rfl
  | .c _ :: k => stk_rt cx Q k
  | .b _ :: k => stk_rt cx Q k
  | .ops _ :: k => stk_rt cx Q k
  | .pt _ :: k => stk_rt cx Q k
  | .ck _ :: k => stk_rt cx Q k
  | .lp _ :: k => stk_rt cx Q k
theorem stk_n (cx Q) : ∀ k, (stk cx Q k).n = Q.n
  | [] => rfl
  | .c _ :: k => stk_n cx Q k
  | .b _ :: k => stk_n cx Q k
  | .ops _ :: k => stk_n cx Q k
  | .pt _ :: k => stk_n cx Q k
  | .ck _ :: k => stk_n cx Q k
  | .lp _ :: k => stk_n cx Q k
theorem stk_pn (cx Q) : ∀ k, (stk cx Q k).pn = Q.pn
  | [] => rfl
  | .c _ :: k => stk_pn cx Q k
  | .b _ :: k => stk_pn cx Q k
  | .ops _ :: k => stk_pn cx Q k
  | .pt _ :: k => stk_pn cx Q k
  | .ck _ :: k => stk_pn cx Q k
  | .lp _ :: k => stk_pn cx Q k
theorem stk_ex (cx Q) (i : Nat) (T h) : ∀ k, (stk cx Q k).ex i T h = match pop i k with | some k' => (stk cx Q k').nx T h | none => Q.ex i T h
  | [] => rfl
  | .c _ :: k => stk_ex cx Q i T h k
  | .ops _ :: k => stk_ex cx Q i T h k
  | .pt _ :: k => stk_ex cx Q i T h k
  | .ck _ :: k => stk_ex cx Q i T h k
  | .lp _ :: k => stk_ex cx Q i T h k
  | .b id :: k => by
    simp only [stk, pop]
    by_cases e : i = id
    · subst e; simp
    · rw [if_neg e, if_neg (fun h => e h.symm)]; exact stk_ex cx Q i T h k

theorem poK_stk {cx : Cx} {Q : Po} {F : FK} (hF : ∀ k T h, F k T h → (stk cx Q k).nx T h) {c : Code} {k : List It} {T h} (hc : AW cx c (poK F Q k) T h) : AW cx c (stk cx Q k) T h := by
  refine aw_mono hc (stk_n cx Q k) (fun T h hn => hF _ _ _ hn) (fun i T h he => ?_) (fun T h hr => by rw [stk_rt]; exact hr) (fun T v h hp => by rw [stk_pn]; exact hp)
  rw [stk_ex]
  simp only [poK] at he
  cases hp : pop i k with
  | none => rw [hp] at he; exact he
  | some k' => rw [hp] at he; exact hF _ _ _ he

theorem opK_ok {cx : Cx} {Q : Po} {F : FK} (hF : ∀ k T h, F k T h → (stk cx Q k).nx T h) {all r : List Oper} {o : Oper} {k : List It} {T : List V} {h : List Blk} (ho : opK cx F Q o.op o.dst (slim all r) k T h) :
    StepOk cx o T h (fun v h' => run cx all r (putT T o.dst v) h' (stk cx Q k).nx (stk cx Q k).pn) ((stk cx Q k).pn T) := by
  have next : ∀ v h', F (.ops (slim all r) :: k) (putT T o.dst v) h' → run cx all r (putT T o.dst v) h' (stk cx Q k).nx (stk cx Q k).pn := fun v h' hf => hF _ _ _ hf all r rfl
  have pan : ∀ v h', Q.pn T v h' → (stk cx Q k).pn T v h' := fun v h' hp => by rw [stk_pn]; exact hp
  have silent : (if silent o.op = true then sxK F o.dst (slim all r) k T (sx cx o.op T h) else StepS cx F Q o.op o.dst (slim all r) k T h) →
      StepOk cx o T h (fun v h' => run cx all r (putT T o.dst v) h' (stk cx Q k).nx (stk cx Q k).pn) ((stk cx Q k).pn T) := by
    intro ho
    split at ho
    · obtain ⟨hc, hf⟩ := ho
      refine (sx_ok (Kp := fun _ _ => False) hc).mono ?_ (fun _ _ h => h.elim)
      rintro v h' ⟨rfl, rfl⟩
      exact next _ _ hf
    · exact (ho o rfl).mono next pan
  unfold opK at ho
  split at ho
  · rename_i x xs ts hop
    generalize hx : eo cx T x = xv at ho
    cases xv with
    | func f fi ca =>
      cases f with
      | func n => exact st_call x xs ts hop hx (ho.mono next pan)
      | _ => exact False.elim ho
    | _ => exact False.elim ho
  · exact silent ho

theorem opP_ok {cx : Cx} {Q : Po} {F : FK} (hF : ∀ k T h, F k T h → (stk cx Q k).nx T h) {op : Op} {dst : Option Tmp} {k : List It} {T : List V} {h : List Blk} (ho : opP cx F Q op dst k T h) :
    opA cx op T h (fun v h' => (stk cx Q k).nx (putT T dst v) h') (fun v h => ∀ T, (stk cx Q k).pn T v h) := by
  have next : ∀ v h', F (.ops [] :: k) (putT T dst v) h' → (stk cx Q k).nx (putT T dst v) h' := fun v h' hf => hF _ _ _ hf [] [] rfl
  have sil : silent op = true ∧ sxK F dst [] k T (sx cx op T h) → silent op = true ∧ (sx cx op T h).2.2 ∧ (stk cx Q k).nx (putT T dst (sx cx op T h).1) (sx cx op T h).2.1 := fun ho => ⟨ho.1, ho.2.1, next _ _ ho.2.2⟩
  cases op with
  | call c =>
    obtain ⟨cal, xs, ts⟩ := c
    cases cal with
    | value x =>
      show callA cx _ h _ _ (eo cx T x)
      have ho : callK cx F (allP Q) (.call { callee := .value x, args := xs, argTypes := ts }) (xs.toList.map (eo cx T)) dst [] k T h (eo cx T x) := ho
      generalize eo cx T x = xv at ho ⊢
      cases xv with
      | func f fi ca =>
        cases f with
        | func n => exact ACalls.mono ho next (fun v h' hp => by rw [stk_pn]; exact hp)
        | _ => exact False.elim ho
      | _ => exact False.elim ho
    | _ => exact sil ho
  | _ => exact sil ho

theorem gdV_of {T : List V} {s : Tmp} {w : Bool} {yes no : Prop} {Y N : List V → Prop} (hb : (T.getD s .any).isB = true) (hv : if (T.getD s .any).tst = w then Y (T.set s (.bool w)) else N (T.set s (.bool !w)))
    (hy : Y T → yes) (hn : N T → no) : gdV T (some (some s, w)) yes no := by
  generalize hx : T.getD s .any = x at *
  cases x <;> first | (cases hb; done) | skip
  rename_i b
  by_cases e : b = w
  · subst e
    have hv : Y (T.set s (.bool b)) := by cases b <;> exact hv
    rw [putT_self hx] at hv
    exact gdV_yes (.inr ⟨s, b, rfl, hx⟩) (hy hv)
  · have e' : b = !w := by cases b <;> cases w <;> first | rfl | exact absurd rfl e
    subst e'
    have hv : N (T.set s (.bool !w)) := by cases w <;> exact hv
    rw [putT_self hx] at hv
    exact gdV_no hx (hn hv)

theorem vk_ok {cx : Cx} {Q : Po} : ∀ (n : Nat) (k : List It) (T : List V) (h : List Blk), vk cx Q n k T h → (stk cx Q k).nx T h
  | n, [], T, h, hv => by cases n <;> exact hv
  | 0, _ :: _, T, h, hv => False.elim hv
  | n + 1, .c c :: k, T, h, hv => by
    have IH := vk_ok (cx := cx) (Q := Q) n
    show AW cx c (stk cx Q k) T h
    cases c with
    | skip => exact fun g w0 own df a w hh => wp_skip ⟨g, T, h, .refl _ g, IH _ _ _ hv, hh⟩
    | seq a b =>
      have h1 : AW cx a (stk cx Q (.c b :: k)) T h := IH _ _ _ hv
      intro g w0 own df st w hh
      refine wp_seq (wp_mono (h1 g w0 own df st w hh) ?_)
      intro e a w he
      cases e with
      | normal =>
        obtain ⟨g', T', h', hle, hk, hh'⟩ := he
        refine wp_mono (hk g' w0 own df a w hh') ?_
        intro e a w he
        cases e with
        | normal => exact Then.mono hle (fun _ _ h => h) he
        | exit i => exact Then.mono hle (fun _ _ h => h) he
        | ret => exact Then.mono hle (fun _ _ h => h) he
        | panic ch => exact ThenP.mono hle (fun _ _ _ h => h) he
        | goto l => exact he
        | outgrown => exact he
      | exit i => exact he
      | ret => exact he
      | panic ch => exact he
      | goto l => exact he
      | outgrown => exact he
    | region id ops draw =>
      cases draw with
      | true =>
        simp only [vk] at hv
        cases hp : plan ops.toList with
        | none => rw [hp] at hv; exact poK_stk IH hv
        | some pt => rw [hp] at hv; exact aw_any hv.1 hp (IH _ _ _ hv.2)
      | false =>
        have h1 := IH _ _ _ hv
        have h2 : run cx ops.toList ops.toList T h (stk cx Q k).nx (stk cx Q k).pn := h1 _ _ rfl
        intro g w0 own df a w hh
        refine wp_region ?_
        have := run_ok (cx := cx) (ops := ops) (w0 := w0) (own := own) (df := df) (K := (stk cx Q k).nx) (Kp := (stk cx Q k).pn) (g0 := g) (n0 := (stk cx Q k).n) (Q := fun e a w => match e with
          | .normal => Then cx (stk cx Q k).n g w0 own df (stk cx Q k).nx a w
          | .exit i => Then cx (stk cx Q k).n g w0 own df ((stk cx Q k).ex i) a w
          | .ret => Then cx (stk cx Q k).n g w0 own df (stk cx Q k).rt a w
          | .panic ch => ThenP cx (stk cx Q k).n g w0 own df (stk cx Q k).pn ch a w
          | _ => False) (fun _ _ h => h) (fun _ _ _ h => h) 0 ops.toList rfl T h g a w (.refl _ g) h2 hh
        rw [List.drop_zero] at this; exact this
    | cond c x y =>
      obtain ⟨hb, hv⟩ := hv
      intro g w0 own df a w hh
      have hR := eo_R hh.2.1 hh.2.2.1 c
      generalize hcv : eo cx T c = cv at *
      cases cv with
      | bool b =>
        have hc := hR.bool_inv
        cases b with
        | true => exact wp_cond_true hc (IH (.c x :: k) T h (by simpa [V.tst] using hv) g w0 own df a w hh)
        | false => exact wp_cond_false hc (IH (.c y :: k) T h (by simpa [V.tst] using hv) g w0 own df a w hh)
      | _ => cases hb
    | block id x =>
      have h1 : AW cx x (stk cx Q (.b id :: k)) T h := IH _ _ _ hv
      intro g w0 own df a w hh
      refine wp_block (wp_mono (h1 g w0 own df a w hh) ?_)
      intro e a w he
      cases e with
      | normal => exact he
      | exit i =>
        simp only [Exit.inBlock]
        split
        · rename_i e'; subst e'; exact Then.mono (.refl _ _) (fun _ _ h => by simpa [stk] using h) he
        · rename_i e'; exact Then.mono (.refl _ _) (fun _ _ h => by simpa [stk, e'] using h) he
      | ret => exact he
      | panic ch => exact he
      | goto l => exact he
      | outgrown => exact he
    | exit id =>
      intro g w0 own df a w hh
      refine wp_exit ⟨g, T, h, .refl _ g, ?_, hh⟩
      rw [stk_ex]
      simp only [vk] at hv
      cases hp : pop id k with
      | none => rw [hp] at hv; exact hv
      | some k' => rw [hp] at hv; exact IH _ _ _ hv
    | ret => exact fun g w0 own df a w hh => wp_ret ⟨g, T, h, .refl _ g, by rw [stk_rt]; exact hv, hh⟩
    | _ => exact poK_stk IH hv
  | n + 1, .b id :: k, T, h, hv => vk_ok n k T h hv
  | n + 1, .ck l :: k, T, h, hv => ⟨hv.1, vk_ok n k T h hv.2⟩
  | n + 1, .lp c :: k, T, h, hv => AL.round (vk_ok n (.c c :: .lp c :: k) T h hv)
  | n + 1, .pt .bad :: k, T, h, hv => hv.elim
  | n + 1, .pt .fin :: k, T, h, hv => trivial
  | n + 1, .pt .done :: k, T, h, hv => vk_ok n k T h hv
  | n + 1, .pt (.q d op gd nx) :: k, T, h, hv => by
    have IH := vk_ok (cx := cx) (Q := Q) n
    show gdV _ _ _ _
    simp only [vk] at hv
    match gd, hv with
    | none, hv => exact ⟨hv.1, IH _ _ _ hv.2⟩
    | some (none, _), hv => exact hv.elim
    | some (some s, w), hv => exact gdV_of (Y := fun T => sxP (vk cx Q n) d nx k T h (sx cx op T h)) (N := fun T => vk cx Q n (.pt nx :: k) (putT T d .any) h) hv.1 hv.2 (fun hv => ⟨hv.1, IH _ _ _ hv.2⟩) (fun hv => IH _ _ _ hv)
  | n + 1, .pt (.br d op gd ck nx ot) :: k, T, h, hv => by
    have IH := vk_ok (cx := cx) (Q := Q) n
    simp only [vk] at hv
    refine ⟨?_, IH _ _ _ hv.2⟩
    have hv := hv.1
    match gd, hv with
    | none, hv => exact opP_ok IH hv
    | some (none, _), hv => exact hv.elim
    | some (some s, w), hv => exact gdV_of (Y := fun T => opP cx (vk cx Q n) Q op d (.ck ck :: .pt nx :: k) T h) (N := fun T => vk cx Q n (.ck ck :: .pt nx :: k) (putT T d .any) h) hv.1 hv.2 (fun hv => opP_ok IH hv) (fun hv => IH _ _ _ hv)
  | n + 1, .ops [] :: k, T, h, hv => by
    intro all rest hs
    cases rest with
    | nil => exact vk_ok n k T h hv
    | cons o r => cases hs
  | n + 1, .ops (so :: l) :: k, T, h, hv => by
    have IH := vk_ok (cx := cx) (Q := Q) n
    intro all rest hs
    cases rest with
    | nil => cases hs
    | cons o r =>
      simp only [slim, List.cons.injEq] at hs
      obtain ⟨rfl, rfl⟩ := hs
      simp only [vk] at hv
      simp only [run]
      cases hg : o.guard with
      | none => rw [hg] at hv; exact opK_ok IH hv
      | some q =>
        obtain ⟨j, w⟩ := q
        rw [hg] at hv
        simp only [gdOf] at hv
        cases hs : gslot all j with
        | none => rw [hs] at hv; exact False.elim hv
        | some s =>
          rw [hs] at hv
          obtain ⟨hb, hv⟩ := hv
          simp only [hs]
          generalize hsv : T.getD s .any = sv at *
          cases sv with
          | bool b =>
            refine ⟨fun e => ?_, fun e => ?_⟩
            · have e' : (V.bool b).tst = w := e
              rw [if_pos e'] at hv; exact opK_ok IH hv
            · have e' : ¬ (V.bool b).tst = w := by show ¬ b = w; rw [e]; cases w <;> simp
              rw [if_neg e'] at hv
              exact IH _ _ _ hv all r rfl
          | _ => cases hb

/-- A loop, round by round. -/
theorem unroll_vk {cx : Cx} {F : FK} {Q : Po} {c : Code} {k : List It} {T : List V} {h : List Blk} (N : Nat) (hv : vk cx (poK F Q k) N [.c c, .lp c] T h) : CodeS cx F Q (.loop c) k T h :=
  AL.loop (AL.round (vk_ok N [.c c, .lp c] T h hv))
end Go.Proofs.Ytlfnhbbgpifidaa.Sx
