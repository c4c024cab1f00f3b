/- A function's body: how it is entered, and what it returns; another view of the same memory; loops. -/
import Derived.Test.YtlfnhbbgpifidaaSxQ
namespace Go.Proofs.Ytlfnhbbgpifidaa.Sx
set_option linter.unusedVariables false
set_option linter.unusedSimpArgs false
open Go.RowKit

def opLoad (cx : Cx) (t : TypeId) (x : V) (h : List Blk) (K : KV) : Prop :=
  match x, ti cx.P t with
  | .ptr b off, some (n, ag) => ∃ ty cells, h[b]? = some (.obj ty cells) ∧ (if ag then off + n ≤ cells.length ∧ K (.agg ((cells.drop off).take n)) h else ∃ y, cells[off]? = some y ∧ K y h)
  | .fp cs, some (n, ag) => if ag then n ≤ cs.length ∧ K (.agg (cs.take n)) h else ∃ y, cs[0]? = some y ∧ K y h
  | _, _ => False

theorem load_run {cx : Cx} {g : Gh} {w0 own w} {h : List Blk} {t : TypeId} {x : V} {xu : Value} {K : KV} (hR : R g x xu) (hH : RelH g h w0 own w) (hv : opLoad cx t x h K) :
    ∃ y u, K y h ∧ R g y u ∧ (asAddr xu >>= fun ad => loadVar t ad).run cx.P w = .ok u w := by
  unfold opLoad at hv
  split at hv
  · rename_i b off n ag ht
    obtain ⟨ty, cells, hb, hK⟩ := hv
    obtain ⟨c, hc, rfl⟩ := hR.ptr_inv
    cases ag with
    | false =>
      obtain ⟨y, hy, hK⟩ := hK
      obtain ⟨u, hu, hr⟩ := hH.cell hb hc hy
      exact ⟨y, u, hK, hr, by simp [asAddr, loadVar_one ht hu, Result.andThen]⟩
    | true =>
      obtain ⟨hle, hK⟩ := hK
      have hlen : ((cells.drop off).take n).length = n := by simp; omega
      obtain ⟨us, hul, hur⟩ := list_of (fun (jy : Nat × V) u => w.cell? ⟨c, off + jy.1, none⟩ = some u ∧ R g jy.2 u) (((cells.drop off).take n).zipIdx.map fun p => (p.2, p.1)) (by
        intro j y hy
        simp only [List.getElem?_map, List.getElem?_zipIdx, Option.map_map, Option.map_eq_some_iff] at hy
        obtain ⟨z, hz, rfl⟩ := hy
        simp only [List.getElem?_take, List.getElem?_drop] at hz
        split at hz
        · obtain ⟨u, hu, hr⟩ := hH.cell hb hc hz
          exact ⟨u, by simpa using hu, hr⟩
        · cases hz)
      simp only [List.length_map, List.length_zipIdx] at hul
      have key : ∀ (j : Nat) z u, ((cells.drop off).take n)[j]? = some z → us[j]? = some u → w.cell? ⟨c, off + j, none⟩ = some u ∧ R g z u := by
        intro j z u hz hu
        exact hur j (j, z) u (by simp [List.getElem?_zipIdx, hz]) hu
      have hload := loadVar_agg (P := cx.P) (w := w) ht (ad := ⟨c, off, none⟩) (cs := us) (by rw [hul, hlen]) (fun j v hv => by
        rw [add_mk]
        have hj : j < us.length := (List.getElem?_eq_some_iff.1 hv).1
        exact (key j _ v (List.getElem?_eq_getElem (by omega)) hv).1)
      exact ⟨_, .agg us.toArray, hK, .agg (by simp [hul]) fun i z u hz hu => (key i z u hz (by simpa using hu)).2, by simp [asAddr, hload, Result.andThen]⟩
  · rename_i cs n ag ht
    obtain ⟨ad, rfl, hsp, hcs⟩ := hR.fp_inv
    cases ag with
    | false =>
      obtain ⟨y, hy, hK⟩ := hv
      obtain ⟨u, hu, hr⟩ := hcs 0 y hy
      rw [add_plain hsp] at hu
      have hu' := hH.frz _ _ hu
      have e' : (⟨ad.block, ad.off + 0, none⟩ : Addr) = ad := by cases ad; simp at hsp; simp [hsp]
      rw [e'] at hu'
      exact ⟨y, u, hK, .data hr, by simp [asAddr, loadVar_one ht hu', Result.andThen]⟩
    | true =>
      obtain ⟨hle, hK⟩ := hv
      obtain ⟨us, hul, hur⟩ := list_of (fun (jy : Nat × V) u => w.cell? (ad.add jy.1) = some u ∧ RD g.S jy.2 u) ((cs.take n).zipIdx.map fun p => (p.2, p.1)) (by
        intro j y hy
        simp only [List.getElem?_map, List.getElem?_zipIdx, Option.map_map, Option.map_eq_some_iff] at hy
        obtain ⟨z, hz, rfl⟩ := hy
        simp only [List.getElem?_take] at hz
        split at hz
        · obtain ⟨u, hu, hr⟩ := hcs j z hz
          exact ⟨u, by simpa using hH.frz _ _ hu, hr⟩
        · cases hz)
      simp only [List.length_map, List.length_zipIdx, List.length_take] at hul
      have key : ∀ (j : Nat) z u, (cs.take n)[j]? = some z → us[j]? = some u → w.cell? (ad.add j) = some u ∧ RD g.S z u := by
        intro j z u hz hu
        exact hur j (j, z) u (by simp [List.getElem?_zipIdx, hz]) hu
      have hload := loadVar_agg (P := cx.P) (w := w) ht (ad := ad) (cs := us) (by omega) (fun j v hv => by
        have hj : j < us.length := (List.getElem?_eq_some_iff.1 hv).1
        exact (key j _ v (List.getElem?_eq_getElem (by simp; omega)) hv).1)
      exact ⟨_, .agg us.toArray, hK, .agg (by simp [hul]) fun i z u hz hu => .data (key i z u hz (by simpa using hu)).2, by simp [asAddr, hload, Result.andThen]⟩
  · exact hv.elim

theorem load_sx {cx : Cx} {g : Gh} {w0 own w} {h : List Blk} {t : TypeId} {x : V} {xu : Value} (hR : R g x xu) (hH : RelH g h w0 own w) (hc : (sxLoad h x (ti cx.P t)).2.2) :
    ∃ u, R g (sxLoad h x (ti cx.P t)).1 u ∧ (asAddr xu >>= fun ad => loadVar t ad).run cx.P w = .ok u w := by
  have key : opLoad cx t x h (fun v h' => v = (sxLoad h x (ti cx.P t)).1) := by
    cases ht : ti cx.P t with
    | none => rw [ht] at hc; cases x <;> exact False.elim hc
    | some q =>
      obtain ⟨n, ag⟩ := q
      rw [ht] at hc
      cases x with
      | ptr b off =>
        cases ag with
        | true =>
          have hne : cellsOf h b ≠ [] := by intro e; simp only [sxLoad, e, List.length_nil] at hc; omega
          simp only [opLoad, ht]
          exact ⟨_, _, cellsOf_obj hne, by simp only [if_true]; exact ⟨hc.2, rfl⟩⟩
        | false =>
          have hne : cellsOf h b ≠ [] := by intro e; simp only [sxLoad, e, List.length_nil] at hc; omega
          simp only [opLoad, ht]
          exact ⟨_, _, cellsOf_obj hne, by simp only [Bool.false_eq_true, if_false]; exact ⟨_, getD_some hc, rfl⟩⟩
      | fp cs =>
        cases ag with
        | true => simp only [opLoad, ht, if_true]; exact ⟨hc, rfl⟩
        | false => simp only [opLoad, ht, Bool.false_eq_true, if_false]; exact ⟨_, getD_some hc, rfl⟩
      | _ => exact False.elim hc
  obtain ⟨y, u, hy, hr, hrun⟩ := load_run hR hH key
  subst hy
  exact ⟨u, hr, hrun⟩

/-- A function's results. -/
def consC (v : V) (p : Prop) : List V × Prop → List V × Prop
  | (l, c) => (v :: l, p ∧ c)
def consS : St → List V × Prop → List V × Prop
  | (v, _, p), q => consC v p q
def resL (cx : Cx) (T : List V) (h : List Blk) : List ResultVar → List V × Prop
  | [] => ([], True)
  | .tmp t :: r => consC (T.getD t .any) True (resL cx T h r)
  | .cell a t :: r => consS (sxLoad h (T.getD a .any) (ti cx.P t)) (resL cx T h r)

def one1 : List V → V
  | [v] => v
  | l => .tup l

def resS (tmps : Array Value) : ResultVar → Sem Value
  | .tmp t => pure (tmps.getD t undef)
  | .cell a t => asAddr (tmps.getD a undef) >>= fun ad => loadVar t ad
theorem results_eq (fn : Func) (tmps : Array Value) : results fn tmps = (do let vs ← fn.results.mapM (resS tmps); pure (if h : vs.size = 1 then vs[0] else .tuple vs)) := by
  unfold results
  congr 2

theorem resL_ok {cx : Cx} {g : Gh} {w0 own w} {h : List Blk} {T : List V} {tmps : Array Value} (hT : RelT g T tmps) (hH : RelH g h w0 own w) : ∀ (rs : List ResultVar), (resL cx T h rs).2 →
    ∃ (us : List Value), (resL cx T h rs).1.length = us.length ∧ (∀ (i : Nat) x u, (resL cx T h rs).1[i]? = some x → us[i]? = some u → R g x u) ∧ (rs.mapM (resS tmps)).run cx.P w = .ok us w
  | [], _ => ⟨[], rfl, by simp [resL], rfl⟩
  | .tmp t :: r, hc => by
    obtain ⟨us, h2, h3, h4⟩ := resL_ok hT hH r hc.2
    refine ⟨tmps.getD t undef :: us, by simp [resL, consC, h2], fun i x u hx hu => ?_, ?_⟩
    · cases i with
      | zero => simp [resL, consC] at hx hu; subst hx hu; simpa using hT.get t
      | succ i => exact h3 i x u (by simpa [resL, consC] using hx) (by simpa using hu)
    · simp only [List.mapM_cons, resS, Sem.run_bind, Sem.run_pure, Result.andThen, h4]
  | .cell a t :: r, hc => by
    obtain ⟨u, hR, hrun⟩ := load_sx (cx := cx) (t := t) (hT.get a) hH hc.1
    obtain ⟨us, h2, h3, h4⟩ := resL_ok hT hH r hc.2
    have e1 : (resL cx T h (.cell a t :: r)).1 = (sxLoad h (T.getD a .any) (ti cx.P t)).1 :: (resL cx T h r).1 := rfl
    refine ⟨u :: us, by rw [e1]; simp [h2], fun i x u' hx hu => ?_, ?_⟩
    · rw [e1] at hx
      cases i with
      | zero => simp at hx hu; subst hx hu; exact hR
      | succ i => exact h3 i x u' (by simpa using hx) (by simpa using hu)
    · have hrun' : (resS tmps (.cell a t)).run cx.P w = .ok u w := hrun
      simp only [List.mapM_cons, Sem.run_bind, hrun', Result.andThen, h4, Sem.run_pure]

theorem results_ok {cx : Cx} {g : Gh} {w0 own w} {h : List Blk} {T : List V} {tmps : Array Value} (hT : RelT g T tmps) (hH : RelH g h w0 own w) {fn : Func}
    (hk : (resL cx T h fn.results.toList).2) : ∃ u, R g (one1 (resL cx T h fn.results.toList).1) u ∧ (results fn tmps).run cx.P w = .ok u w := by
  obtain ⟨us, h2, h3, h4⟩ := resL_ok hT hH _ hk
  generalize (resL cx T h fn.results.toList).1 = l at *
  refine ⟨if hh : us.toArray.size = 1 then us.toArray[0] else .tuple us.toArray, ?_, ?_⟩
  · match l, us, h2 with
    | [], [], _ => exact .tup rfl (by simp)
    | [x], [u], _ => simpa [one1] using h3 0 x u rfl rfl
    | x :: y :: l, u :: u' :: us, h2 =>
      have : ¬ ((u :: u' :: us).toArray.size = 1) := by simp
      rw [dif_neg this]
      exact .tup (by simpa using h2) fun i x u hx hu => h3 i x u hx (by simpa using hu)
  · rw [results_eq, Array.mapM_eq_mapM_toList]
    simp only [Sem.run_bind, Sem.run_map, h4, Result.andThen, Sem.run_pure]

/-- What is returned. -/
def retK (K : KV) (h : List Blk) : List V × Prop → Prop
  | (l, c) => c ∧ K (one1 l) h

/-- What a body does that has no deferred calls. -/
def post (cx : Cx) (fn : Func) (n : Nat) (K Kp : KV) : Po where
  n := n
  nx := fun T h => retK K h (resL cx T h fn.results.toList)
  ex := fun _ _ _ => False
  rt := fun T h => retK K h (resL cx T h fn.results.toList)
  pn := fun _ v h => Kp v h

theorem calls_of {cx : Cx} {f : FuncId} {fn : Func} {c : Code} (hf : cx.P.funcs[f]? = some fn) (hb : fn.body = some c) (hn : (fn.name == "runtime.NumGoroutine") = false) {args : List V} {h : List Blk} {K Kp : KV}
    (hv : AW cx c (post cx fn h.length K Kp) (args ++ List.replicate (fn.ntmps - args.length) .any) h) : ACalls cx f args h K Kp := by
  refine ⟨by simp [hasBody, hf, hb, hn], ?_⟩
  intro g w vs hG hl hr hH
  refine calls_of_wp hf hb ?_
  have hT : RelT g (args ++ List.replicate (fn.ntmps - args.length) .any) (vs ++ Array.replicate (fn.ntmps - vs.size) undef) := by
    refine ⟨by simp [hl], fun i x u hx hu => ?_⟩
    rw [List.getElem?_append] at hx
    rw [Array.getElem?_append] at hu
    rw [hl] at hx
    split at hx
    · rename_i hi; rw [if_pos hi] at hu; exact hr i x u hx hu
    · have : x = .any := by
        rw [List.getElem?_replicate] at hx
        split at hx
        · exact (Option.some.inj hx).symm
        · cases hx
      subst this; exact R.any g u
  refine wp_mono (hv g { w with S0 := g.S } (ownOf g h) [] _ w ⟨rfl, hG, hT, hH, rfl⟩) ?_
  have fin : ∀ a' w', Then cx h.length g { w with S0 := g.S } (ownOf g h) [] (fun T h => retK K h (resL cx T h fn.results.toList)) a' w' → a'.defers = [] ∧ ∃ v, (results fn a'.tmps).run cx.P w' = .ok v w' ∧
      ∃ g' v' u h', Gh.leN h.length g g' ∧ R g' v' u ∧ RelH g' h' { w with S0 := g.S } (ownOf g h) w' ∧ ((Ending.returned v = .returned u ∧ K v' h') ∨ (Ending.returned v = .panicked [{ v := u, recovered := false }] ∧ Kp v' h')) := by
    rintro a' w' ⟨g', T', h', hle, hk, _, _, hT', hH', hd⟩
    obtain ⟨u, hR, hrun⟩ := results_ok hT' hH' hk.1
    exact ⟨hd, u, hrun, g', _, u, h', hle, hR, hH', .inl ⟨rfl, hk.2⟩⟩
  intro e a' w' he
  cases e with
  | normal => exact fin a' w' he
  | exit i => obtain ⟨_, _, _, _, hk, _⟩ := he; exact hk.elim
  | ret => exact fin a' w' he
  | panic ch =>
    obtain ⟨g', T', h', v, u, hle, hk, hR, rfl, _, _, _, hH', hd⟩ := he
    exact ⟨hd, g', v, u, h', hle, hR, hH', .inr ⟨rfl, hk⟩⟩
  | goto l => exact False.elim he
  | outgrown => exact False.elim he

/-- A call, by a walk through its body. -/
theorem calls_vk {cx : Cx} {f : FuncId} {fn : Func} {c : Code} (n : Nat) (hf : cx.P.funcs[f]? = some fn) (hb : fn.body = some c) (hn : (fn.name == "runtime.NumGoroutine") = false) {args : List V} {h : List Blk} {K Kp : KV}
    (hv : vk cx (post cx fn h.length K Kp) n [.c c] (args ++ List.replicate (fn.ntmps - args.length) .any) h) : ACalls cx f args h K Kp :=
  calls_of hf hb hn (vk_ok n [.c c] _ _ hv)

/-! Another view of the same memory. -/
mutual
/-- 'x' says no more than 'y', where the number b of x's heap is the number ρ b of y's. -/
def sub (ρ : Nat → Option Nat) : V → V → Prop
  | .any, _ => True
  | .ptr b off, y => ∃ b', ρ b = some b' ∧ y = .ptr b' off
  | .fp cs, y => y = .fp cs
  | .fl sz l none, y => (∃ t, y = .fl sz l t) ∨ (l = [] ∧ y = .nils)
  | .fl sz l (some b), y => (∃ b', ρ b = some b' ∧ y = .fl sz l (some b')) ∨ (l = [] ∧ y = .nils)
  | .ms sz b off len, y => ∃ b', ρ b = some b' ∧ y = .ms sz b' off len
  | .func f a c, y => ∃ a' c', y = .func f a' c' ∧ subL ρ a a' ∧ subL ρ c c'
  | .iface t x, y => ∃ x', y = .iface t x' ∧ sub ρ x x'
  | .agg l, y => ∃ l', y = .agg l' ∧ subL ρ l l'
  | .tup l, y => ∃ l', y = .tup l' ∧ subL ρ l l'
  | .bool b, y => y = .bool b
  | .int k n, y => y = .int k n
  | .str s, y => y = .str s
  | .nilp, y => y = .nilp
  | .nils, y => y = .nils
  | .nilf, y => y = .nilf
  | .nili, y => y = .nili
def subL (ρ : Nat → Option Nat) : List V → List V → Prop
  | [], l' => l' = []
  | x :: l, l' => ∃ y r, l' = y :: r ∧ sub ρ x y ∧ subL ρ l r
end

def Gh.view (g : Gh) (ρ : Nat → Option Nat) (n : Nat) : Gh :=
  { S := g.S, β := fun b => if b < n then (ρ b).bind g.β else none, dim := fun b => match ρ b with | some b' => g.dim b' | none => 0 }

mutual
/-- The numbers that a value names. -/
def ids : V → List Nat
  | .ptr b _ => [b]
  | .fl _ _ (some b) => [b]
  | .ms _ b _ _ => [b]
  | .func _ a c => idsL a ++ idsL c
  | .iface _ x => ids x
  | .agg l => idsL l
  | .tup l => idsL l
  | _ => []
def idsL : List V → List Nat
  | [] => []
  | x :: l => ids x ++ idsL l
end

mutual
theorem sub_R {g : Gh} {ρ : Nat → Option Nat} {n : Nat} : ∀ (x y : V) (v : Value), sub ρ x y → (∀ b ∈ ids x, b < n) → R g y v → R (g.view ρ n) x v
  | .any, _, v, _, _, _ => R.any _ v
  | .ptr b off, y, v, hs, hn, hR => by
    obtain ⟨b', hb, rfl⟩ := hs
    obtain ⟨c, hc, rfl⟩ := hR.ptr_inv
    have hlt : b < n := hn b (by simp [ids])
    exact .ptr off (by simp [Gh.view, hlt, hb, hc])
  | .fp cs, y, v, hs, _, hR => by
    cases hs
    obtain ⟨ad, rfl, hsp, h⟩ := hR.fp_inv
    exact .fp hsp h
  | .fl sz l none, y, v, hs, _, hR => by
    rcases hs with ⟨t, rfl⟩ | ⟨rfl, rfl⟩
    · exact .data hR.fl_inv.1
    · obtain ⟨a, rfl⟩ := hR.nils_inv; exact .data (.fl0 _ _ _)
  | .fl sz l (some b), y, v, hs, hn, hR => by
    rcases hs with ⟨b', hb, rfl⟩ | ⟨rfl, rfl⟩
    · obtain ⟨hD, ht⟩ := hR.fl_inv
      have hlt : b < n := hn b (by simp [ids])
      rcases ht b' rfl with ⟨c, cap, hc, hd, hcap, rfl⟩ | ⟨rfl, a, rfl⟩
      · exact .flt hD hcap (by simp [Gh.view, hlt, hb, hc]) (by simpa [Gh.view, hb] using hd)
      · exact .flt0 _ _ _
    · obtain ⟨a, rfl⟩ := hR.nils_inv; exact .flt0 _ _ _
  | .ms sz b off len, y, v, hs, hn, hR => by
    obtain ⟨b', hb, rfl⟩ := hs
    obtain ⟨c, cap, hc, hd, hcap, rfl⟩ := hR.ms_inv
    have hlt : b < n := hn b (by simp [ids])
    exact .ms (by simp [Gh.view, hlt, hb, hc]) (by simpa [Gh.view, hb] using hd) hcap
  | .func f a c, y, v, hs, hn, hR => by
    obtain ⟨a', c', rfl, h1, h2⟩ := hs
    obtain ⟨va, vc, rfl, l1, l2, r1, r2⟩ := hR.func_inv
    obtain ⟨k1, k2⟩ := subL_R a a' va.toList h1 (fun b hb => hn b (by simp [ids, hb])) (by simpa using l1) (fun i x u hx hu => r1 i x u hx (by simpa using hu))
    obtain ⟨k3, k4⟩ := subL_R c c' vc.toList h2 (fun b hb => hn b (by simp [ids, hb])) (by simpa using l2) (fun i x u hx hu => r2 i x u hx (by simpa using hu))
    exact .func f (by simpa using k1) (by simpa using k3) (fun i x u hx hu => k2 i x u hx (by simpa using hu)) (fun i x u hx hu => k4 i x u hx (by simpa using hu))
  | .iface t x, y, v, hs, hn, hR => by
    obtain ⟨x', rfl, h1⟩ := hs
    obtain ⟨u, rfl, hr⟩ := hR.iface_inv
    exact .iface t (sub_R x x' u h1 (fun b hb => hn b (by simpa [ids] using hb)) hr)
  | .agg l, y, v, hs, hn, hR => by
    obtain ⟨l', rfl, h1⟩ := hs
    obtain ⟨cs, rfl, hl, hr⟩ := hR.agg_inv
    obtain ⟨k1, k2⟩ := subL_R l l' cs.toList h1 (fun b hb => hn b (by simpa [ids] using hb)) (by simpa using hl) (fun i x u hx hu => hr i x u hx (by simpa using hu))
    exact .agg (by simpa using k1) (fun i x u hx hu => k2 i x u hx (by simpa using hu))
  | .tup l, y, v, hs, hn, hR => by
    obtain ⟨l', rfl, h1⟩ := hs
    obtain ⟨cs, rfl, hl, hr⟩ := hR.tup_inv
    obtain ⟨k1, k2⟩ := subL_R l l' cs.toList h1 (fun b hb => hn b (by simpa [ids] using hb)) (by simpa using hl) (fun i x u hx hu => hr i x u hx (by simpa using hu))
    exact .tup (by simpa using k1) (fun i x u hx hu => k2 i x u hx (by simpa using hu))
  | .bool b, y, v, hs, _, hR => by cases hs; cases hR.bool_inv; exact .data (.bool _)
  | .int k n, y, v, hs, _, hR => by cases hs; cases hR.int_inv; exact .data (.int _ _)
  | .str s, y, v, hs, _, hR => by cases hs; cases hR.str_inv; exact .data (.str _)
  | .nilp, y, v, hs, _, hR => by cases hs; cases hR.nilp_inv; exact .nilp
  | .nils, y, v, hs, _, hR => by cases hs; obtain ⟨a, rfl⟩ := hR.nils_inv; exact .data (.nils _)
  | .nilf, y, v, hs, _, hR => by cases hs; cases hR.nilf_inv; exact .nilf
  | .nili, y, v, hs, _, hR => by cases hs; cases hR.nili_inv; exact .nili
theorem subL_R {g : Gh} {ρ : Nat → Option Nat} {n : Nat} : ∀ (l l' : List V) (us : List Value), subL ρ l l' → (∀ b ∈ idsL l, b < n) → l'.length = us.length → (∀ (i : Nat) x u, l'[i]? = some x → us[i]? = some u → R g x u) →
    l.length = us.length ∧ ∀ (i : Nat) x u, l[i]? = some x → us[i]? = some u → R (g.view ρ n) x u
  | [], l', us, hs, _, hl, _ => by cases hs; exact ⟨hl, by simp⟩
  | x :: l, l', us, hs, hn, hl, hr => by
    obtain ⟨y, r, rfl, h1, h2⟩ := hs
    match us, hl with
    | u :: us, hl =>
      have k := sub_R x y u h1 (fun b hb => hn b (by simp [idsL, hb])) (hr 0 y u rfl rfl)
      obtain ⟨k1, k2⟩ := subL_R l r us h2 (fun b hb => hn b (by simp [idsL, hb])) (by simpa using hl) (fun i x u hx hu => hr (i + 1) x u (by simpa using hx) (by simpa using hu))
      refine ⟨by simp [k1], fun i z u' hz hu' => ?_⟩
      cases i with
      | zero => simp at hz hu'; subst hz hu'; exact k
      | succ i => exact k2 i z u' (by simpa using hz) (by simpa using hu')
end

/-- A block seen under another number. -/
def subB (ρ : Nat → Option Nat) (h : List Blk) (b : Nat) : Blk → Prop
  | .gone => True
  | .obj t l => ∃ b' l', ρ b = some b' ∧ h[b']? = some (.obj t l') ∧ subL ρ l l'
  | .tok t n => (∃ b', ρ b = some b' ∧ h[b']? = some (.tok t n)) ∨ (ρ b = none)

/-- One state seen as another. -/
structure Sees (ρ : Nat → Option Nat) (h h' : List Blk) : Prop where
  blk : ∀ (b : Nat) x, h'[b]? = some x → subB ρ h b x
  ids : ∀ (b : Nat) t l, h'[b]? = some (.obj t l) → ∀ i ∈ idsL l, i < h'.length
  inj : ∀ (b b' : Nat) c, b < h'.length → b' < h'.length → ρ b = some c → ρ b' = some c → b = b'

theorem RelH.view {g : Gh} {h h' : List Blk} {w0 own w} (hH : RelH g h w0 own w) {ρ : Nat → Option Nat} (hs : Sees ρ h h') : RelH (g.view ρ h'.length) h' w0 own w := by
  have lv : ∀ (b : Nat) x c, h'[b]? = some x → x.live = true → (g.view ρ h'.length).β b = some c → ∃ b' y, ρ b = some b' ∧ h[b']? = some y ∧ y.live = true ∧ g.β b' = some c := by
    intro b x c hx hl hc
    have hlt := (List.getElem?_eq_some_iff.1 hx).1
    simp only [Gh.view, hlt, if_true] at hc
    obtain ⟨b', hb', hc'⟩ := Option.bind_eq_some_iff.1 hc
    have := hs.blk b x hx
    cases x with
    | gone => cases hl
    | obj t l =>
      obtain ⟨b'', l', e, hh, _⟩ := this
      rw [hb'] at e; cases e
      exact ⟨b', _, hb', hh, rfl, hc'⟩
    | tok t n =>
      rcases this with ⟨b'', e, hh⟩ | e
      · rw [hb'] at e; cases e
        exact ⟨b', _, hb', hh, rfl, hc'⟩
      · rw [hb'] at e; cases e
  refine { frz := hH.frz, ent := ?_, lt := ?_, inj := ?_, size := hH.size, block := hH.block, os := hH.os, tape := hH.tape, output := hH.output, mine := ?_, new := hH.new }
  · intro b x hx
    have hlt := (List.getElem?_eq_some_iff.1 hx).1
    have hsb := hs.blk b x hx
    cases x with
    | gone => trivial
    | obj t l =>
      intro c hc
      obtain ⟨b', l1, hb', hh, hsl⟩ := hsb
      simp only [Gh.view, hlt, if_true, hb', Option.bind_some] at hc
      obtain ⟨cs, h1, h2, h3, h4, h5⟩ := hH.ent b' _ hh c hc
      have hl1 : l1.length ≤ cs.size := h3
      obtain ⟨k1, k2⟩ := subL_R (g := g) (n := h'.length) l l1 (cs.toList.take l1.length) hsl (hs.ids b t l hx) (by simp; omega) (fun i x u hx hu => by
        have hi : i < l1.length := (List.getElem?_eq_some_iff.1 hx).1
        obtain ⟨u', hu', hr⟩ := h4 i x hx
        rw [List.getElem?_take_of_lt hi] at hu
        simp at hu
        rw [hu] at hu'; cases hu'
        exact hr)
      have hll : l.length = l1.length := by simp at k1; omega
      refine ⟨cs, h1, by simp [Gh.view, hb', h2], by omega, fun j y hy => ?_, h5⟩
      have hj : j < l.length := (List.getElem?_eq_some_iff.1 hy).1
      have hjc : j < cs.size := by omega
      refine ⟨cs[j], Array.getElem?_eq_getElem hjc, k2 j y _ hy ?_⟩
      rw [List.getElem?_take_of_lt (by omega)]
      simp [hjc]
    | tok t n =>
      intro c hc
      rcases hsb with ⟨b', hb', hh⟩ | e
      · simp only [Gh.view, hlt, if_true, hb', Option.bind_some] at hc
        obtain ⟨cs, h1, h2, h3, h4⟩ := hH.ent b' _ hh c hc
        exact ⟨cs, h1, by simp [Gh.view, hb', h2], h3, h4⟩
      · simp [Gh.view, e] at hc
  · intro b c hc
    simp only [Gh.view] at hc
    split at hc
    · rename_i hlt
      obtain ⟨b', _, hc'⟩ := Option.bind_eq_some_iff.1 hc
      exact ⟨hlt, (hH.lt _ _ hc').2⟩
    · cases hc
  · intro b1 b2 x x' c h1 h2 l1 l2 e1 e2
    obtain ⟨b1', y1, f1, k1, m1, c1⟩ := lv b1 x c h1 l1 e1
    obtain ⟨b2', y2, f2, k2, m2, c2⟩ := lv b2 x' c h2 l2 e2
    have := hH.inj _ _ _ _ _ k1 k2 m1 m2 c1 c2
    subst this
    exact hs.inj b1 b2 _ (List.getElem?_eq_some_iff.1 h1).1 (List.getElem?_eq_some_iff.1 h2).1 f1 f2
  · intro b x c hx hl hc
    obtain ⟨b', y, f, k, m, c'⟩ := lv b x c hx hl hc
    exact hH.mine _ _ _ k m c'
end Go.Proofs.Ytlfnhbbgpifidaa.Sx
