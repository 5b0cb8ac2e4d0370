/- Code and calls: the conditions, and that they suffice. -/
import Derived.Test.YthkmbfifiojmhaaAbsO
set_option linter.unusedSimpArgs false
set_option linter.unusedVariables false
namespace Go.Abs
open Go.RowKit

/-- Rows that are there have been made. -/
def Heap.wf (H : Heap) : Prop := ∀ b o, H.get b = some o → b < H.n
theorem Sim.wf {w0 : World} {σ : Sig} {H : Heap} {w : World} (h : Sim w0 σ H w) : H.wf := fun _ _ hb => h.lt hb
theorem ACall.wf {P : Program} {w0 : World} {f : FuncId} {args : List AV} {H : Heap} {K : AV → Heap → Prop} (h : H.wf → ACall P w0 f args H K) : ACall P w0 f args H K :=
  fun σ w args' hS ha => h hS.wf σ w args' hS ha
theorem ACall.wfK {P : Program} {w0 : World} {f : FuncId} {args : List AV} {H : Heap} {K K' : AV → Heap → Prop} (h : ACall P w0 f args H K) (hk : ∀ v H', H'.wf → K v H' → K' v H') : ACall P w0 f args H K' :=
  fun σ w args' hS ha => (h σ w args' hS ha).mono fun e w' ⟨σ', v, v', H', h1, h2, h3, h4, h5⟩ => ⟨σ', v, v', H', h1, h2, h3, h4, hk _ _ h3.wf h5⟩

def andThen (Q : Exit → Env → Heap → Prop) (K : Env → Heap → Prop) : Exit → Env → Heap → Prop
  | .normal, E, H => K E H
  | e, E, H => Q e E H
def inBlk (id : Nat) (Q : Exit → Env → Heap → Prop) : Exit → Env → Heap → Prop
  | .exit id', E, H => if id' = id then Q .normal E H else Q (.exit id') E H
  | e, E, H => Q e E H
def wpC (P : Program) (w0 : World) : Code → (Exit → Env → Heap → Prop) → Env → Heap → Prop
  | .skip, Q, E, H => Q .normal E H
  | .region _ ops draw, Q, E, H =>
    if draw = true then ∃ plan, planOk P ops ops.size (Array.replicate ops.size false) [] plan = true ∧ wpT P w0 ops (Q .normal) plan [] E H
    else wpL P w0 ops ops.toList E H (Q .normal)
  | .seq a b, Q, E, H => wpC P w0 a (andThen Q (wpC P w0 b Q)) E H
  | .cond c a b, Q, E, H => match ev E c with | .bool t => (t = true → wpC P w0 a Q E H) ∧ (t = false → wpC P w0 b Q E H) | _ => False
  | .block id c, Q, E, H => wpC P w0 c (inBlk id Q) E H
  | .loop c, Q, E, H => ∃ I : Nat → Env → Heap → Prop, (∃ n, I n E H) ∧ ∀ n E H, H.wf → I n E H → wpC P w0 c (andThen Q fun E' H' => ∃ m, m < n ∧ I m E' H') E H
  | .exit id, Q, E, H => Q (.exit id) E H
  | .ret, Q, E, H => Q .ret E H
  | .label _, Q, E, H => Q .normal E H
  | _, _, _, _ => False
def codeOk (N : Nat) : Code → Bool
  | .region _ ops _ => regionOk N ops
  | .seq a b => codeOk N a && codeOk N b
  | .cond _ a b => codeOk N a && codeOk N b
  | .block _ c => codeOk N c
  | .loop c => codeOk N c
  | .scope c => codeOk N c
  | .rangeFunc _ _ a b => codeOk N a && codeOk N b
  | _ => true
def argsEnv (args : List AV) : Env := fun t => args.getD t .undef
def resOne (P : Program) (E : Env) (H : Heap) (r : ResultVar) : Option AV :=
  match r with
  | .tmp t => some (E t)
  | .cell a t => loadA P H t (E a)
def resSem (tmps : Array Value) (r : ResultVar) : Sem Value :=
  match r with
  | .tmp t => pure (tmps.getD t undef)
  | .cell c t => do loadVar t (← asAddr (tmps.getD c undef))
def resA (P : Program) (rs : List ResultVar) (E : Env) (H : Heap) : Option AV :=
  match rs.mapM (resOne P E H) with
  | some [v] => some v
  | some vs => some (.tuple vs)
  | none => none

section
variable {P : Program} {w0 : World} {σ σ0 : Sig} {H : Heap} {w : World} {N : Nat} {E : Env} {a : Act} {K : Env → Heap → Prop}

theorem wp_loop' {c : Code} {Q : Exit → Act → World → Prop} (I : Nat → Act → World → Prop) {n : Nat} (h₀ : I n a w)
    (round : ∀ n a w, I n a w → c.wp P (Exit.then (fun a' w' => ∃ m, m < n ∧ I m a' w') Q) a w) : (Code.loop c).wp P Q a w := by
  intro b k cs
  have key : ∀ n a w, I n a w → ∃ e a' w', Q e a' w' ∧ Arrives P (lone (b.at a (.code c :: .inLoop c :: k)) cs w) b k cs e a' w' := by
    intro n
    induction n using Nat.strongRecOn with
    | _ n ih =>
      intro a w hI
      obtain ⟨e, a₁, w₁, hq, harr⟩ := round n a w hI b (.inLoop c :: k) cs
      cases e with
      | normal =>
        obtain ⟨m, hlt, hI₁⟩ := hq
        obtain ⟨e₂, a₂, w₂, hq₂, harr₂⟩ := ih m hlt a₁ w₁ hI₁
        exact ⟨e₂, a₂, w₂, hq₂, .of_steps (Steps.trans harr (.one step_inLoop)) harr₂⟩
      | exit id => exact ⟨_, a₁, w₁, hq, .pass (x := .inLoop c) rfl (fun _ _ => .inl (by simp)) harr⟩
      | goto l => exact ⟨_, a₁, w₁, hq, .pass (x := .inLoop c) rfl (fun _ _ => .inl (by simp)) harr⟩
      | ret => exact ⟨_, a₁, w₁, hq, .pass (x := .inLoop c) rfl (fun _ _ => .inl (by simp)) harr⟩
      | panic ch => exact ⟨_, a₁, w₁, hq, .pass (x := .inLoop c) rfl (fun _ _ => .inl (by simp)) harr⟩
      | outgrown => exact ⟨_, a₁, w₁, hq, .pass (x := .inLoop c) rfl (fun _ _ => .inl (by simp)) harr⟩
  obtain ⟨e, a', w', hq, harr⟩ := key n a w h₀
  exact ⟨e, a', w', hq, .of_steps (.one step_loop) harr⟩

theorem wpC_sound (hmix : P.follows .mixedOrders = true) : ∀ (c : Code) (Q : Exit → Env → Heap → Prop) (a : Act) (w : World), codeOk N c = true →
    Told w0 σ0 N (fun E H => wpC P w0 c Q E H) a w → c.wp P (fun e a' w' => Told w0 σ0 N (Q e) a' w') a w := by
  intro c
  induction c with
  | skip => intro Q a w _ h; exact wp_skip h
  | region id ops draw =>
    intro Q a w hok h
    obtain ⟨σ, E, H, h1, h2, h3, h4⟩ := h
    simp only [wpC] at h4
    cases draw with
    | false =>
      simp only [Bool.false_eq_true, if_false] at h4
      refine wp_region ?_
      have := wpL_sound (P := P) (σ0 := σ0) (N := N) (Q := fun e a' w' => Told w0 σ0 N (Q e) a' w') hok (fun a w h => h) ops.toList 0 a w (fun j => by simp) ⟨σ, E, H, h1, h2, h3, h4⟩
      simpa [List.range_eq_range'] using this
    | true =>
      simp only [if_true] at h4
      obtain ⟨plan, hp, hT⟩ := h4
      refine wp_region_any hmix ?_
      have hA := wpT_sound (P := P) (w0 := w0) (K := Q .normal) ops.size (Array.replicate ops.size false) [] plan [] E H hp (fun x o hx _ _ _ _ => by
        exfalso
        rcases Nat.lt_or_ge x ops.size with h | h <;> simp [h] at hx) (fun r hr => by cases hr) hT
      exact anyR_sound (P := P) (σ0 := σ0) (N := N) (Q := fun e a' w' => Told w0 σ0 N (Q e) a' w') hok (fun a w h => h) ops.size _ [] a _ ⟨σ, E, H, h1, h2, h3.drew, hA⟩
  | seq x y ihx ihy =>
    intro Q a w hok h
    simp only [codeOk, Bool.and_eq_true] at hok
    refine wp_seq (wp_mono (ihx _ a w hok.1 h) fun e a' w' he => ?_)
    cases e with
    | normal => exact ihy Q a' w' hok.2 he
    | _ => exact he
  | cond c x y ihx ihy =>
    intro Q a w hok h
    simp only [codeOk, Bool.and_eq_true] at hok
    obtain ⟨σ, E, H, h1, h2, h3, h4⟩ := h
    simp only [wpC] at h4
    have hc := h2.ev c
    split at h4
    · rename_i t ht
      rw [ht, VR_bool] at hc
      exact wp_cond_split hc (fun e => ihx Q a w hok.1 ⟨σ, E, H, h1, h2, h3, h4.1 e⟩) (fun e => ihy Q a w hok.2 ⟨σ, E, H, h1, h2, h3, h4.2 e⟩)
    · exact False.elim h4
  | block id c ih =>
    intro Q a w hok h
    refine wp_block (wp_mono (ih _ a w hok h) fun e a' w' he => ?_)
    cases e with
    | exit id' =>
      simp only [Exit.inBlock]
      split
      · rename_i heq; obtain ⟨σ, E, H, h1, h2, h3, h4⟩ := he; simp only [inBlk, if_pos heq] at h4; exact ⟨σ, E, H, h1, h2, h3, h4⟩
      · rename_i heq; obtain ⟨σ, E, H, h1, h2, h3, h4⟩ := he; simp only [inBlk, if_neg heq] at h4; exact ⟨σ, E, H, h1, h2, h3, h4⟩
    | _ => exact he
  | loop c ih =>
    intro Q a w hok h
    obtain ⟨σ, E, H, h1, h2, h3, I, ⟨n, hI⟩, hround⟩ := h
    refine wp_loop' (fun n a w => Told w0 σ0 N (I n) a w) (n := n) ⟨σ, E, H, h1, h2, h3, hI⟩ fun n a w hIn => ?_
    have := ih (andThen Q fun E' H' => ∃ m, m < n ∧ I m E' H') a w hok (by
      obtain ⟨σ, E, H, h1, h2, h3, h4⟩ := hIn
      exact ⟨σ, E, H, h1, h2, h3, hround n E H h3.wf h4⟩)
    refine wp_mono this fun e a' w' he => ?_
    cases e with
    | normal =>
      obtain ⟨σ, E, H, h1, h2, h3, m, hm, h4⟩ := he
      exact ⟨m, hm, σ, E, H, h1, h2, h3, h4⟩
    | _ => exact he
  | exit id => intro Q a w _ h; exact wp_exit h
  | ret => intro Q a w _ h; exact wp_ret h
  | label l => intro Q a w _ h; exact wp_label h
  | scope c ih => intro Q a w _ h; obtain ⟨_, _, _, _, _, _, h⟩ := h; exact False.elim h
  | goto l => intro Q a w _ h; obtain ⟨_, _, _, _, _, _, h⟩ := h; exact False.elim h
  | refuse s => intro Q a w _ h; obtain ⟨_, _, _, _, _, _, h⟩ := h; exact False.elim h
  | rangeFunc f ps x y ihx ihy => intro Q a w _ h; obtain ⟨_, _, _, _, _, _, h⟩ := h; exact False.elim h

theorem resA_run {fn : Func} {r : AV} (h : resA P fn.results.toList E H = some r) (hr : Rel N σ E a) (hS : Sim w0 σ H w) : ∃ v, (results fn a.tmps).run P w = .ok v w ∧ VR σ r v := by
  have key : ∀ (l : List ResultVar) (m : List AV), l.mapM (resOne P E H) = some m →
      ∃ vs : List Value, (l.mapM (resSem a.tmps)).run P w = .ok vs w ∧ VRs σ m vs := by
    intro l
    induction l with
    | nil => intro m hm; simp at hm; subst hm; exact ⟨[], rfl, by simp only [VRs]⟩
    | cons x l ih =>
      intro m hm
      simp only [List.mapM_cons, Option.bind_eq_bind, Option.pure_def, Option.bind_eq_some_iff] at hm
      obtain ⟨q, hq, m', hm', hmm⟩ := hm
      cases hmm
      obtain ⟨vs, hvs, hvr⟩ := ih m' hm'
      cases x with
      | tmp t =>
        simp only [resOne, Option.some.injEq] at hq
        subst hq
        refine ⟨a.tmps.getD t undef :: vs, ?_, by simp only [VRs]; exact ⟨hr.tmps t, hvr⟩⟩
        simp only [List.mapM_cons, Sem.run_bind, resSem, Sem.run_pure, Result.andThen_ok, hvs]
      | cell c t =>
        simp only [resOne] at hq
        obtain ⟨z, hz, hrz⟩ := loadA_run hS hq (hr.tmps c)
        refine ⟨z :: vs, ?_, by simp only [VRs]; exact ⟨hrz, hvr⟩⟩
        have hptr : ∃ ad, a.tmps.getD c undef = .pointer (some ad) := by
          unfold loadA at hq
          split at hq
          · rename_i ag s b off hl he
            have := hr.tmps c
            rw [he] at this
            simp only [VR] at this
            obtain ⟨g, k, e, _, hv⟩ := this
            exact ⟨_, hv⟩
          · rename_i ag s cs hl he
            have := hr.tmps c
            rw [he] at this
            simp only [VR] at this
            obtain ⟨g, o, vs, hv, _⟩ := this
            exact ⟨_, hv⟩
          · cases hq
        obtain ⟨ad, had⟩ := hptr
        rw [had] at hz
        simp only [Instr.loadAt, Instr.sureAddr, Sem.run_bind, Sem.run_pure, Result.andThen_ok] at hz
        simp only [List.mapM_cons, resSem, Sem.run_bind, had, asAddr, Sem.run_pure, Result.andThen_ok, hz, hvs]
  unfold resA at h
  have hres : ∀ vs : List Value, (fn.results.toList.mapM (resSem a.tmps)).run P w = .ok vs w →
      (results fn a.tmps).run P w = .ok (if h : vs.toArray.size = 1 then vs.toArray[0] else .tuple vs.toArray) w := by
    intro vs hvs
    have e : results fn a.tmps = (fn.results.mapM (resSem a.tmps)) >>= fun vs => pure (if h : vs.size = 1 then vs[0] else .tuple vs) := by
      unfold results
      congr 1
    rw [e, Array.mapM_eq_mapM_toList, Sem.run_bind, Sem.run_map, hvs]
    rfl
  split at h
  · rename_i v hm
    cases h
    obtain ⟨vs, hvs, hvr⟩ := key _ _ hm
    have hl := hvr.length
    obtain ⟨x, rfl⟩ : ∃ x, vs = [x] := by
      cases vs with
      | nil => simp at hl
      | cons x l => cases l with
        | nil => exact ⟨x, rfl⟩
        | cons _ _ => simp at hl
    simp only [VRs] at hvr
    exact ⟨x, by rw [hres _ hvs]; rfl, hvr.1⟩
  · rename_i vs' hne hm
    cases h
    obtain ⟨vs, hvs, hvr⟩ := key _ _ hm
    have hl := hvr.length
    refine ⟨.tuple vs.toArray, ?_, by simp only [VR]; exact ⟨_, rfl, by simpa using hvr⟩⟩
    rw [hres _ hvs, dif_neg]
    intro h1
    cases vs' with
    | nil => simp at h1; simp at hl; omega
    | cons x l =>
      cases l with
      | nil => exact hne x rfl
      | cons _ _ => simp at h1; simp at hl; omega
  · cases h

theorem ACall.of_wp (hmix : P.follows .mixedOrders = true) {f : FuncId} {fn : Func} {c : Code} {args : List AV} {K : AV → Heap → Prop} (hf : P.funcs[f]? = some fn) (hb : fn.body = some c) (hok : codeOk fn.ntmps c = true) (hn : args.length ≤ fn.ntmps)
    (h : wpC P w0 c (fun e E' H' => (e = .ret ∨ e = .normal) ∧ ∃ v, resA P fn.results.toList E' H' = some v ∧ K v H') (argsEnv args) H) : ACall P w0 f args H K := by
  intro σ w args' hS ha
  refine calls_of_wp hf hb ?_
  have hl := ha.length
  have hrel : Rel fn.ntmps σ (argsEnv args) { tmps := args' ++ Array.replicate (fn.ntmps - args'.size) undef, defers := [] } := by
    refine ⟨by simp at hl ⊢; omega, rfl, fun t => ?_⟩
    simp only [argsEnv]
    by_cases ht : t < args.length
    · obtain ⟨v, hv, hr⟩ := ha.get (i := t) (a := args[t]) (by simp [ht])
      have hv' : args'[t]? = some v := by simpa using hv
      have hts : t < args'.size := by simp at hl; omega
      have : (args' ++ Array.replicate (fn.ntmps - args'.size) undef).getD t undef = v := by
        simp only [Array.getD_eq_getD_getElem?, Array.getElem?_append, hts, if_true, hv', Option.getD_some]
      simp only [this]
      simpa [List.getD, ht] using hr
    · have : args.getD t .undef = .undef := by simp [List.getD, List.getElem?_eq_none (Nat.le_of_not_lt ht)]
      rw [this]; simp only [VR]
  refine wp_mono (wpC_sound (N := fn.ntmps) (σ0 := σ) hmix c _ _ w hok ⟨σ, _, H, Sig.le_refl _, hrel, hS, h⟩) fun e a' w' he => ?_
  obtain ⟨σ', E', H', h1, h2, h3, hex, v, hv, hk⟩ := he
  obtain ⟨z, hz, hrz⟩ := resA_run hv h2 h3
  rcases hex with rfl | rfl
  · exact ⟨h2.defers, z, hz, σ', v, z, H', rfl, h1, h3, hrz, hk⟩
  · exact ⟨h2.defers, z, hz, σ', v, z, H', rfl, h1, h3, hrz, hk⟩
end
end Go.Abs
