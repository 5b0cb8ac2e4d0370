/- Conditions in a form that simp turns, step for step, into plain facts. -/
import Derived.Test.YthkmbfifiojmhaaAbsP
set_option linter.unusedSimpArgs false
set_option linter.unusedVariables false
namespace Go.Abs
open Go.RowKit

/-- Here simp goes on. -/
def Run (p : Prop) : Prop := p
def RunO (o : Option AV) (K : AV → Heap → Prop) (H : Heap) : Prop := match o with | some v => K v H | none => False
def RunG (o : Option Bool) (A B : Prop) : Prop := match o with | some true => A | some false => B | none => False
def RunC (v : AV) (A B : Prop) : Prop := match v with | .bool t => (t = true → A) ∧ (t = false → B) | _ => False

theorem nr {α : Sort _} {a b : α} (h : a = b) : a = b := h
section
variable {P : Program} {w0 : World} {σ σ0 : Sig} {H : Heap} {w : World} {N : Nat} {E : Env} {a : Act} {ops : Array Oper}
theorem Run.mk {p : Prop} (h : Run p) : p := h
theorem Env.set_at (E : Env) (d : Nat) (v : AV) (t : Nat) : E.set d v t = if t = d then v else E t := nr rfl
theorem Env.setO_some (E : Env) (d : Nat) (v : AV) : E.setO (some d) v = E.set d v := nr rfl
theorem Env.setO_none (E : Env) (v : AV) : E.setO none v = E := nr rfl
theorem wrap64 {n : Int} (h1 : -9223372036854775808 ≤ n) (h2 : n < 9223372036854775808) : IntKind.i64.wrap n = n := by
  simp [IntKind.wrap, IntKind.signed, IntKind.bits]; omega
theorem wrap_u16 {n : Int} (h1 : 0 ≤ n) (h2 : n < 65536) : IntKind.u16.wrap n = n := by
  simp [IntKind.wrap, IntKind.signed, IntKind.bits]; omega
theorem wrap_u8 {n : Int} (h1 : 0 ≤ n) (h2 : n < 256) : IntKind.u8.wrap n = n := by
  simp [IntKind.wrap, IntKind.signed, IntKind.bits]; omega

/-! ### Code -/
section code
variable {Q : Exit → Env → Heap → Prop} {K : Env → Heap → Prop}
theorem run_skip : Run (wpC P w0 .skip Q E H) = Run (Q .normal E H) := nr rfl
theorem run_seq {c d : Code} : Run (wpC P w0 (.seq c d) Q E H) = Run (wpC P w0 c (andThen Q (wpC P w0 d Q)) E H) := nr rfl
theorem run_block {i : Nat} {c : Code} : Run (wpC P w0 (.block i c) Q E H) = Run (wpC P w0 c (inBlk i Q) E H) := nr rfl
theorem run_exit {i : Nat} : Run (wpC P w0 (.exit i) Q E H) = Run (Q (.exit i) E H) := nr rfl
theorem run_ret : Run (wpC P w0 .ret Q E H) = Run (Q .ret E H) := nr rfl
theorem run_region {id : Nat} {ops : Array Oper} : Run (wpC P w0 (.region id ops false) Q E H) = Run (wpL P w0 ops ops.toList E H (Q .normal)) := by simp [Run, wpC]
theorem run_region_l {id : Nat} {l : List Oper} : Run (wpC P w0 (.region id ⟨l⟩ false) Q E H) = Run (wpL P w0 ⟨l⟩ l E H (Q .normal)) := by simp [Run, wpC]
theorem run_any {id : Nat} {ops : Array Oper} (plan : Plan) (h : planOk P ops ops.size (Array.replicate ops.size false) [] plan = true) (hr : Run (wpT P w0 ops (Q .normal) plan [] E H)) : Run (wpC P w0 (.region id ops true) Q E H) := by
  show wpC _ _ _ _ _ _
  simp only [wpC, if_true]
  exact ⟨plan, h, hr⟩
theorem run_cond {x : Operand} {c d : Code} : Run (wpC P w0 (.cond x c d) Q E H) = RunC (ev E x) (wpC P w0 c Q E H) (wpC P w0 d Q E H) := by
  simp only [Run, wpC, RunC]
  rfl
theorem runC_prop {p : Prop} [Decidable p] {A B : Prop} : RunC (.bool (decide p)) A B = ((p → A) ∧ (¬ p → B)) := by simp [RunC]
theorem runC_not {p : Prop} [Decidable p] {A B : Prop} : RunC (.bool (!decide p)) A B = ((¬ p → A) ∧ (p → B)) := by simp [RunC]
theorem runC_true {A B : Prop} : RunC (.bool true) A B = Run A := by simp [RunC, Run]
theorem runC_false {A B : Prop} : RunC (.bool false) A B = Run B := by simp [RunC, Run]
theorem runC_bool {b : Bool} {A B : Prop} : RunC (.bool b) A B = ((b = true → A) ∧ (b = false → B)) := by simp [RunC]
theorem runC_notb {b : Bool} {A B : Prop} : RunC (.bool (!b)) A B = ((b = false → A) ∧ (b = true → B)) := by simp [RunC]
theorem run_then : Run (andThen Q K .normal E H) = Run (K E H) := nr rfl
theorem run_then_ret : Run (andThen Q K .ret E H) = Run (Q .ret E H) := nr rfl
theorem run_then_exit {i : Nat} : Run (andThen Q K (.exit i) E H) = Run (Q (.exit i) E H) := nr rfl
theorem run_inb {i : Nat} : Run (inBlk i Q .normal E H) = Run (Q .normal E H) := nr rfl
theorem run_in_ret {i : Nat} : Run (inBlk i Q .ret E H) = Run (Q .ret E H) := nr rfl
theorem run_in_exit {i j : Nat} : Run (inBlk i Q (.exit j) E H) = if j = i then Run (Q .normal E H) else Run (Q (.exit j) E H) := nr rfl
theorem thenN {R : Prop} : andThen Q K .normal E H = K E H := nr rfl
theorem wpL_mono {K K' : Env → Heap → Prop} (hk : ∀ E H, K E H → K' E H) : ∀ (l : List Oper) {E : Env} {H : Heap}, wpL P w0 ops l E H K → wpL P w0 ops l E H K'
  | [], E, H, h => hk _ _ h
  | o :: l, E, H, h => by
    simp only [wpL] at h ⊢
    split at h
    · exact opA_mono (fun v H' h => wpL_mono hk l h) h
    · exact wpL_mono hk l h
    · exact h.elim
theorem wpT_mono {K K' : Env → Heap → Prop} (hk : ∀ E H, K E H → K' E H) : ∀ (p : Plan) {rs : List Rd} {E : Env} {H : Heap}, wpT P w0 ops K p rs E H → wpT P w0 ops K' p rs E H
  | .nil, rs, E, H, h => hk _ _ h
  | .val i p, rs, E, H, h => by
    simp only [wpT] at h ⊢
    split at h
    · exact h.elim
    · split at h
      · exact h.elim
      · exact wpT_mono hk p h
      · split at h
        · exact h.elim
        · exact wpT_mono hk p h
  | .eff i chk p, rs, E, H, h => by
    simp only [wpT] at h ⊢
    split at h
    · exact h.elim
    · split at h
      · exact h.elim
      · exact wpT_mono hk p h
      · exact opA_mono (fun v H' h => ⟨h.1, wpT_mono hk p h.2⟩) h
  | .two i chk p j chk' q, rs, E, H, h => by
    simp only [wpT] at h ⊢
    refine ⟨?_, ?_⟩
    · have h := h.1
      split at h
      · exact h.elim
      · split at h
        · exact h.elim
        · exact wpT_mono hk p h
        · exact opA_mono (fun v H' h => ⟨h.1, wpT_mono hk p h.2⟩) h
    · have h := h.2
      split at h
      · exact h.elim
      · split at h
        · exact h.elim
        · exact wpT_mono hk q h
        · exact opA_mono (fun v H' h => ⟨h.1, wpT_mono hk q h.2⟩) h
theorem wpC_mono : ∀ (c : Code) {Q Q' : Exit → Env → Heap → Prop} {E : Env} {H : Heap}, (∀ e E H, Q e E H → Q' e E H) → wpC P w0 c Q E H → wpC P w0 c Q' E H := by
  intro c
  induction c with
  | skip => intro Q Q' E H hq h; exact hq _ _ _ h
  | region id ops draw =>
    intro Q Q' E H hq h
    cases draw with
    | false =>
      simp only [wpC, Bool.false_eq_true, if_false] at h ⊢
      exact wpL_mono (fun E H => hq _ E H) _ h
    | true =>
      simp only [wpC, if_true] at h ⊢
      obtain ⟨plan, h1, h2⟩ := h
      exact ⟨plan, h1, wpT_mono (fun E H => hq _ E H) _ h2⟩
  | seq x y ihx ihy =>
    intro Q Q' E H hq h
    refine ihx (fun e E H h => ?_) h
    cases e with
    | normal => exact ihy hq h
    | _ => exact hq _ _ _ h
  | cond c x y ihx ihy =>
    intro Q Q' E H hq h
    simp only [wpC] at h ⊢
    split at h
    · exact ⟨fun e => ihx hq (h.1 e), fun e => ihy hq (h.2 e)⟩
    · exact h.elim
  | block id c ih =>
    intro Q Q' E H hq h
    refine ih (fun e E H h => ?_) h
    cases e with
    | exit id' =>
      simp only [inBlk] at h ⊢
      split
      · rename_i e; rw [if_pos e] at h; exact hq _ _ _ h
      · rename_i e; rw [if_neg e] at h; exact hq _ _ _ h
    | _ => exact hq _ _ _ h
  | loop c ih =>
    intro Q Q' E H hq h
    obtain ⟨I, h0, hr⟩ := h
    refine ⟨I, h0, fun n E H hw hI => ih (fun e E H h => ?_) (hr n E H hw hI)⟩
    cases e with
    | normal => exact h
    | _ => exact hq _ _ _ h
  | exit id => intro Q Q' E H hq h; exact hq _ _ _ h
  | ret => intro Q Q' E H hq h; exact hq _ _ _ h
  | label l => intro Q Q' E H hq h; exact hq _ _ _ h
  | _ => intro Q Q' E H hq h; exact h.elim
/-- A loop, by what holds before each round and a number that falls. -/
theorem run_loop {c : Code} (I : Nat → Env → Heap → Prop) (n : Nat) (h0 : I n E H) (hr : ∀ n E H, H.wf → I n E H → Run (wpC P w0 c (andThen Q fun E' H' => ∃ m, m < n ∧ I m E' H') E H)) :
    Run (wpC P w0 (.loop c) Q E H) := ⟨I, ⟨n, h0⟩, hr⟩
/-- A loop that counts up to n. -/
theorem run_for {c : Code} (n : Nat) (I : Nat → Env → Heap → Prop) (i : Nat) (hi : i ≤ n) (h0 : I i E H) (hr : ∀ i E H, H.wf → i ≤ n → I i E H → Run (wpC P w0 c (andThen Q fun E' H' => i < n ∧ I (i + 1) E' H') E H)) :
    Run (wpC P w0 (.loop c) Q E H) := by
  refine run_loop (fun m E H => ∃ i, i ≤ n ∧ m = n - i ∧ I i E H) (n - i) ⟨i, hi, rfl, h0⟩ fun m E H hw ⟨i, hi, hm, hI⟩ => ?_
  have := hr i E H hw hi hI
  refine wpC_mono c (fun e E' H' h => ?_) this
  cases e with
  | normal => exact ⟨n - (i + 1), by have := h.1; omega, i + 1, h.1, rfl, h.2⟩
  | _ => exact h
end code

end
/-! ### Operations -/
def rdOf (i : Nat) (op : Op) (E : Env) (v : AV) (rs : List Rd) : List Rd := match op with | .load t x => ⟨i, t, ev E x, v⟩ :: rs | _ => rs
def gv : AV → Bool → Option Bool
  | .bool b, w => some (b == w)
  | .tuple [], _ => some false
  | _, _ => none
def guardV (d : Option Nat) (E : Env) (w : Bool) : Option Bool := match d with | none => some false | some d => gv (E d) w
def stepV (P : Program) (ops : Array Oper) (i : Nat) (rs : List Rd) (o : Option Oper) (E : Env) (H : Heap) (K : List Rd → Env → Heap → Prop) : Prop :=
  match o with
  | none => False
  | some o => RunG (guardA ops o E) (RunO (valA P E H o.op) (fun v H' => K (rdOf i o.op E v rs) (E.setO o.dst v) H') H) (K rs (E.setO o.dst (.tuple [])) H)
def stepE (P : Program) (w0 : World) (ops : Array Oper) (chk : List Nat) (rs : List Rd) (o : Option Oper) (E : Env) (H : Heap) (K : Env → Heap → Prop) : Prop :=
  match o with
  | none => False
  | some o => RunG (guardA ops o E) (opA P w0 o.op E H fun v H' => (∀ r ∈ rs, r.i ∈ chk → loadA P H' r.t r.x = some r.v) ∧ K (E.setO o.dst v) H') (K (E.setO o.dst (.tuple [])) H)
def pickA (c a b : AV) : Option AV := match c with | .bool t => some (if t = true then a else b) | _ => none
def unA (op : UnOp) (x : AV) : Option AV :=
  match op, x with
  | .not, .bool b => some (.bool (!b))
  | .neg, .int k n => some (.int k (k.wrap (0 - n)))
  | .xor, .int k n => some (.int k (bits .xor k (if k.signed then -1 else k.max) n))
  | _, _ => none
def convA (P : Program) (src dst : TypeId) (x : AV) : Option AV :=
  match P.tk dst, x, (P.underlying src).isSome with
  | .int k, .int _ n, true => some (.int k (k.wrap n))
  | _, _, _ => none
def fieldAddrA (k : TK) (x : AV) (f : Nat) : Option AV :=
  match k, x with
  | .struct fs, .ptr (some b) off => match fs[f]? with | some fk => if fk.size = 0 then none else some (.ptr (some b) (off + fk.off)) | none => none
  | .struct fs, .fptr cs => match fs[f]? with | some fk => if fk.size = 0 then none else some (.fptr (cs.drop fk.off)) | none => none
  | _, _ => none
def fieldA (k : TK) (x : AV) (f : Nat) : Option AV :=
  match k, x with
  | .struct fs, .agg cs => match fs[f]? with | some fk => partA fk.agg fk.size cs fk.off | none => none
  | _, _ => none
def idxAddrA (k : TK) (x i : AV) : Option AV :=
  match k, x, i with
  | .slice _ s, .slice b off len _ _, .int _ n => if 0 ≤ n ∧ n < len then some (.ptr b (off + n.toNat * s)) else none
  | .slice _ s, .lst _ len sz cs, .int _ n => if 0 ≤ n ∧ n < len ∧ s = sz ∧ 0 < s then some (.fptr (cs.drop (n.toNat * s))) else none
  | .array m _ _ s, .ptr (some b) off, .int _ n => if 0 ≤ n ∧ n < m then some (.ptr (some b) (off + n.toNat * s)) else none
  | _, _, _ => none
def idxA (k : TK) (x i : AV) : Option AV :=
  match k, x, i with
  | .str, .str l, .int _ n => if 0 ≤ n then (l[n.toNat]?).map fun c => .int .u8 c.toNat else none
  | .array m _ a s, .agg cs, .int _ n => if 0 ≤ n ∧ n < m then partA a s cs (n.toNat * s) else none
  | _, _, _ => none
def extractA (x : AV) (i : Nat) : Option AV := match x with | .tuple vs => vs[i]? | _ => none
def buildA (k : TK) (z : Option (Nat × Value)) (ps : List (Nat × AV)) : Option AV :=
  match k, z with
  | .struct fs, some (_, z) => (fillA (fun i => (fs[i]?).map fun f => (f.off, f.size)) (absV z).cells ps).map .agg
  | _, _ => none
def nilCheckA (x : AV) : Option AV := match x with | .ptr (some b) off => some (.ptr (some b) off) | .fptr cs => some (.fptr cs) | _ => none
def lenA (k : TK) (x : AV) : Option AV :=
  match k, x with
  | .slice _ _, .slice _ _ len _ _ => some (.int .i64 len)
  | .slice _ _, .lst _ len _ _ => some (.int .i64 len)
  | .str, .str s => some (.int .i64 s.length)
  | _, _ => none
def capA (k : TK) (x : AV) : Option AV :=
  match k, x with
  | .slice _ _, .slice _ _ _ _ (some c) => some (.int .i64 c)
  | _, _ => none
def max2V (x y : AV) : Option AV := match x, y with | .int k a, .int _ b => some (.int k (if b > a then b else a)) | _, _ => none
def min2V (x y : AV) : Option AV := match x, y with | .int k a, .int _ b => some (.int k (if b < a then b else a)) | _, _ => none
def callA (P : Program) (w0 : World) (f : AV) (args : List AV) (H : Heap) (K : AV → Heap → Prop) : Prop :=
  match f with
  | .func (.func g) first cap => P.plain g = true ∧ ACall P w0 g (first ++ args ++ cap) H K
  | _ => False

section
variable {P : Program} {w0 : World} {σ σ0 : Sig} {H : Heap} {w : World} {N : Nat} {E : Env} {a : Act} {ops : Array Oper} {K : AV → Heap → Prop} {KE : Env → Heap → Prop} {A B : Prop}
theorem run_nil : Run (wpL P w0 ops [] E H KE) = Run (KE E H) := nr rfl
theorem run_cons {rest : List Oper} {dst : Option Nat} {op : Op} {type : TypeId} {pos : String} {after : Array Edge} :
    Run (wpL P w0 ops (⟨dst, op, type, pos, after, none⟩ :: rest) E H KE) = Run (opA P w0 op E H fun v H' => wpL P w0 ops rest (E.setO dst v) H' KE) := nr rfl
theorem guardA_none {dst : Option Nat} {op : Op} {type : TypeId} {pos : String} {after : Array Edge} : guardA ops ⟨dst, op, type, pos, after, none⟩ E = some true := nr rfl
theorem guardA_some {dst : Option Nat} {op : Op} {type : TypeId} {pos : String} {after : Array Edge} {j : Nat} {b : Bool} : guardA ops ⟨dst, op, type, pos, after, some (j, b)⟩ E = guardV ((ops[j]?).bind (·.dst)) E b := by
  simp only [guardA, guardV, gv]
  split
  · rename_i h; rw [h]
  · rename_i d h; rw [h]; simp only; split <;> simp_all
theorem run_consG {rest : List Oper} {dst : Option Nat} {op : Op} {type : TypeId} {pos : String} {after : Array Edge} {j : Nat} {b : Bool} :
    Run (wpL P w0 ops (⟨dst, op, type, pos, after, some (j, b)⟩ :: rest) E H KE) = RunG (guardV ((ops[j]?).bind (·.dst)) E b) (opA P w0 op E H fun v H' => wpL P w0 ops rest (E.setO dst v) H' KE) (wpL P w0 ops rest (E.setO dst (.tuple [])) H KE) := by
  rw [← guardA_some (dst := dst) (op := op) (type := type) (pos := pos) (after := after)]; rfl
theorem run_tnil {rs : List Rd} : Run (wpT P w0 ops KE .nil rs E H) = Run (KE E H) := nr rfl
theorem run_val {i : Nat} {p : Plan} {rs : List Rd} : Run (wpT P w0 ops KE (.val i p) rs E H) = Run (stepV P ops i rs (ops[i]?) E H fun rs E H => wpT P w0 ops KE p rs E H) := by
  simp only [Run, wpT, stepV]
  cases ops[i]? with
  | none => rfl
  | some o =>
    simp only
    generalize guardA ops o E = g
    cases g with
    | none => rfl
    | some b =>
      cases b with
      | false => rfl
      | true =>
        simp only [RunG, RunO]
        cases valA P E H o.op with
        | none => rfl
        | some v => simp only [rdOf]; rfl
theorem stepE_eq {i : Nat} {chk : List Nat} {p : Plan} {rs : List Rd} : (match ops[i]? with
    | none => False
    | some o =>
      match guardA ops o E with
      | none => False
      | some false => wpT P w0 ops KE p rs (E.setO o.dst (.tuple [])) H
      | some true => opA P w0 o.op E H fun v H' => (∀ r ∈ rs, r.i ∈ chk → loadA P H' r.t r.x = some r.v) ∧ wpT P w0 ops KE p rs (E.setO o.dst v) H') = stepE P w0 ops chk rs (ops[i]?) E H fun E H => wpT P w0 ops KE p rs E H := by
  unfold stepE
  cases ops[i]? with
  | none => rfl
  | some o =>
    simp only
    generalize guardA ops o E = g
    cases g with
    | none => rfl
    | some b => cases b <;> rfl
theorem run_eff {i : Nat} {chk : List Nat} {p : Plan} {rs : List Rd} : Run (wpT P w0 ops KE (.eff i chk p) rs E H) = Run (stepE P w0 ops chk rs (ops[i]?) E H fun E H => wpT P w0 ops KE p rs E H) := by
  simp only [Run, wpT]
  exact stepE_eq
theorem run_two {i j : Nat} {chk chk' : List Nat} {p q : Plan} {rs : List Rd} : Run (wpT P w0 ops KE (.two i chk p j chk' q) rs E H) =
    (stepE P w0 ops chk rs (ops[i]?) E H (fun E H => wpT P w0 ops KE p rs E H) ∧ stepE P w0 ops chk' rs (ops[j]?) E H fun E H => wpT P w0 ops KE q rs E H) := by
  simp only [Run, wpT]
  exact congr (congrArg And stepE_eq) stepE_eq
theorem runG_true : RunG (some true) A B = Run A := nr rfl
theorem runG_false : RunG (some false) A B = Run B := nr rfl
theorem runG_prop {p : Prop} [Decidable p] : RunG (some (decide p)) A B = ((p → A) ∧ (¬ p → B)) := by by_cases h : p <;> simp [RunG, h]
theorem runG_not {p : Prop} [Decidable p] : RunG (some (!decide p)) A B = ((p → B) ∧ (¬ p → A)) := by by_cases h : p <;> simp [RunG, h]
theorem runG_bool {b : Bool} : RunG (some b) A B = ((b = true → A) ∧ (b = false → B)) := by cases b <;> simp [RunG]
theorem runG_notb {b : Bool} : RunG (some (!b)) A B = ((b = true → B) ∧ (b = false → A)) := by cases b <;> simp [RunG]
theorem cP {p : Prop} [Decidable p] (h : p → Run A) (h' : ¬ p → Run B) : RunC (.bool (decide p)) A B := by rw [runC_prop]; exact ⟨h, h'⟩
theorem cN {p : Prop} [Decidable p] (h : ¬ p → Run A) (h' : p → Run B) : RunC (.bool (!decide p)) A B := by rw [runC_not]; exact ⟨h, h'⟩
theorem cB {b : Bool} (h : b = true → Run A) (h' : b = false → Run B) : RunC (.bool b) A B := by rw [runC_bool]; exact ⟨h, h'⟩
theorem cNB {b : Bool} (h : b = false → Run A) (h' : b = true → Run B) : RunC (.bool (!b)) A B := by rw [runC_notb]; exact ⟨h, h'⟩
theorem gP {p : Prop} [Decidable p] (h : p → Run A) (h' : ¬ p → Run B) : RunG (some (decide p)) A B := by rw [runG_prop]; exact ⟨h, h'⟩
theorem gN {p : Prop} [Decidable p] (h : ¬ p → Run A) (h' : p → Run B) : RunG (some (!decide p)) A B := by rw [runG_not]; exact ⟨fun a => h' a, fun a => h a⟩
theorem gB {b : Bool} (h : b = true → Run A) (h' : b = false → Run B) : RunG (some b) A B := by rw [runG_bool]; exact ⟨h, h'⟩
theorem gNB {b : Bool} (h : b = false → Run A) (h' : b = true → Run B) : RunG (some (!b)) A B := by rw [runG_notb]; exact ⟨fun a => h' a, fun a => h a⟩
theorem runO_some {v : AV} : RunO (some v) K H = Run (K v H) := nr rfl
section step
variable {dst : Option Nat} {op : Op} {type : TypeId} {pos : String} {after : Array Edge} {i : Nat} {rs : List Rd} {KR : List Rd → Env → Heap → Prop} {chk : List Nat}
theorem stepV_some : Run (stepV P ops i rs (some ⟨dst, op, type, pos, after, none⟩) E H KR) = RunO (valA P E H op) (fun v H' => KR (rdOf i op E v rs) (E.setO dst v) H') H := nr rfl
theorem stepV_guard {j : Nat} {b : Bool} : Run (stepV P ops i rs (some ⟨dst, op, type, pos, after, some (j, b)⟩) E H KR) = RunG (guardV ((ops[j]?).bind (·.dst)) E b) (stepV P ops i rs (some ⟨dst, op, type, pos, after, none⟩) E H KR) (KR rs (E.setO dst (.tuple [])) H) := by
  rw [← guardA_some (dst := dst) (op := op) (type := type) (pos := pos) (after := after)]; rfl
theorem stepE_some : stepE P w0 ops chk rs (some ⟨dst, op, type, pos, after, none⟩) E H KE = Run (opA P w0 op E H fun v H' => (∀ r ∈ rs, r.i ∈ chk → loadA P H' r.t r.x = some r.v) ∧ KE (E.setO dst v) H') := nr rfl
theorem stepE_nil : stepE P w0 ops [] rs (some ⟨dst, op, type, pos, after, none⟩) E H KE = Run (opA P w0 op E H fun v H' => KE (E.setO dst v) H') := by
  simp [stepE_some]
theorem stepE_guard {j : Nat} {b : Bool} : stepE P w0 ops chk rs (some ⟨dst, op, type, pos, after, some (j, b)⟩) E H KE = RunG (guardV ((ops[j]?).bind (·.dst)) E b) (opA P w0 op E H fun v H' => (∀ r ∈ rs, r.i ∈ chk → loadA P H' r.t r.x = some r.v) ∧ KE (E.setO dst v) H') (KE (E.setO dst (.tuple [])) H) := by
  rw [← guardA_some (dst := dst) (op := op) (type := type) (pos := pos) (after := after)]; rfl
theorem run_op (h : isEA P op = false) : Run (opA P w0 op E H K) = RunO (valA P E H op) K H := by
  simp only [Run, opA, h, Bool.false_eq_true, if_false, RunO]
  rfl
theorem run_ea (h : isEA P op = true) : Run (opA P w0 op E H K) = effA P w0 (ev E) op H K := by
  simp only [Run, opA, h, if_true]
end step
section vals
variable {x y z : Operand} {t u : TypeId}
theorem run_move : Run (opA P w0 (.move x) E H K) = Run (K (ev E x) H) := nr rfl
theorem run_assign : Run (opA P w0 (.assign x) E H K) = Run (K (ev E x) H) := nr rfl
theorem run_pick : Run (opA P w0 (.pick x y z) E H K) = RunO (pickA (ev E x) (ev E y) (ev E z)) K H := run_op (nr rfl)
theorem run_bin {op : BinOp} : Run (opA P w0 (.binOp op t x y u) E H K) = RunO (binA P op t (ev E x) (ev E y)) K H := run_op (nr rfl)
theorem run_un {op : UnOp} : Run (opA P w0 (.unOp op t x) E H K) = RunO (unA op (ev E x)) K H := by
  rw [run_op rfl]; congr 1
theorem run_conv {k : IntKind} (h : P.tk u = .int k) : Run (opA P w0 (.convert t u x) E H K) = RunO (convA P t u (ev E x)) K H := run_op (by simp [isEA, h])
theorem run_fieldAddr {f : Nat} : Run (opA P w0 (.fieldAddr t x f) E H K) = RunO (fieldAddrA (P.tk t) (ev E x) f) K H := run_op (nr rfl)
theorem run_field {f : Nat} : Run (opA P w0 (.field t x f) E H K) = RunO (fieldA (P.tk t) (ev E x) f) K H := run_op (nr rfl)
theorem run_idxAddr : Run (opA P w0 (.indexAddr t x y) E H K) = RunO (idxAddrA (P.tk t) (ev E x) (ev E y)) K H := run_op (nr rfl)
theorem run_idx : Run (opA P w0 (.index t x y) E H K) = RunO (idxA (P.tk t) (ev E x) (ev E y)) K H := run_op (nr rfl)
theorem run_slice {lo hi mx : Option Operand} : Run (opA P w0 (.slice t x lo hi mx) E H K) = RunO (sliceA P t (ev E x) (lo.map (ev E)) (hi.map (ev E)) (mx.map (ev E))) K H := run_op (nr rfl)
theorem run_extract {i : Nat} : Run (opA P w0 (.extract x i) E H K) = RunO (extractA (ev E x) i) K H := run_op (nr rfl)
theorem run_build {ps : Array (Nat × Operand)} : Run (opA P w0 (.build t ps) E H K) = RunO (buildA (P.tk t) (P.bz t) (ps.toList.map fun p => (p.1, ev E p.2))) K H := run_op (nr rfl)
theorem run_nilc : Run (opA P w0 (.nilCheck x) E H K) = RunO (nilCheckA (ev E x)) K H := run_op (nr rfl)
theorem run_func {fn : Fn} {l m : Array Operand} : Run (opA P w0 (.makeFunc fn l m) E H K) = Run (K (.func fn (l.toList.map (ev E)) (m.toList.map (ev E))) H) := nr rfl
theorem run_load : Run (opA P w0 (.load t x) E H K) = RunO (loadA P H t (ev E x)) K H := run_op (nr rfl)
theorem run_len : Run (opA P w0 (.call ⟨.builtin .len, #[x], #[t]⟩) E H K) = RunO (lenA (P.tk t) (ev E x)) K H := run_op (nr rfl)
theorem run_cap : Run (opA P w0 (.call ⟨.builtin .cap, #[x], #[t]⟩) E H K) = RunO (capA (P.tk t) (ev E x)) K H := run_op (nr rfl)
theorem run_max {ts : Array TypeId} : Run (opA P w0 (.call ⟨.builtin .max, #[x, y], ts⟩) E H K) = RunO (max2V (ev E x) (ev E y)) K H := run_op (nr rfl)
theorem run_min {ts : Array TypeId} : Run (opA P w0 (.call ⟨.builtin .min, #[x, y], ts⟩) E H K) = RunO (min2V (ev E x) (ev E y)) K H := run_op (nr rfl)
theorem val_move : valA P E H (.move x) = some (ev E x) := nr rfl
theorem val_assign : valA P E H (.assign x) = some (ev E x) := nr rfl
theorem val_pick : valA P E H (.pick x y z) = pickA (ev E x) (ev E y) (ev E z) := nr rfl
theorem val_bin {op : BinOp} : valA P E H (.binOp op t x y u) = binA P op t (ev E x) (ev E y) := nr rfl
theorem val_un {op : UnOp} : valA P E H (.unOp op t x) = unA op (ev E x) := by
  simp only [valA, pureA, unA]; rfl
theorem val_conv : valA P E H (.convert t u x) = convA P t u (ev E x) := nr rfl
theorem val_fieldAddr {f : Nat} : valA P E H (.fieldAddr t x f) = fieldAddrA (P.tk t) (ev E x) f := nr rfl
theorem val_field {f : Nat} : valA P E H (.field t x f) = fieldA (P.tk t) (ev E x) f := nr rfl
theorem val_idxAddr : valA P E H (.indexAddr t x y) = idxAddrA (P.tk t) (ev E x) (ev E y) := nr rfl
theorem val_idx : valA P E H (.index t x y) = idxA (P.tk t) (ev E x) (ev E y) := nr rfl
theorem val_slice {lo hi mx : Option Operand} : valA P E H (.slice t x lo hi mx) = sliceA P t (ev E x) (lo.map (ev E)) (hi.map (ev E)) (mx.map (ev E)) := nr rfl
theorem val_extract {i : Nat} : valA P E H (.extract x i) = extractA (ev E x) i := nr rfl
theorem val_build {ps : Array (Nat × Operand)} : valA P E H (.build t ps) = buildA (P.tk t) (P.bz t) (ps.toList.map fun p => (p.1, ev E p.2)) := nr rfl
theorem val_nil : valA P E H (.nilCheck x) = nilCheckA (ev E x) := nr rfl
theorem val_func {fn : Fn} {l m : Array Operand} : valA P E H (.makeFunc fn l m) = some (.func fn (l.toList.map (ev E)) (m.toList.map (ev E))) := nr rfl
theorem val_load : valA P E H (.load t x) = loadA P H t (ev E x) := nr rfl
theorem val_len : valA P E H (.call ⟨.builtin .len, #[x], #[t]⟩) = lenA (P.tk t) (ev E x) := nr rfl
theorem val_cap : valA P E H (.call ⟨.builtin .cap, #[x], #[t]⟩) = capA (P.tk t) (ev E x) := nr rfl
theorem val_max {ts : Array TypeId} : valA P E H (.call ⟨.builtin .max, #[x, y], ts⟩) = max2V (ev E x) (ev E y) := nr rfl
theorem val_min {ts : Array TypeId} : valA P E H (.call ⟨.builtin .min, #[x, y], ts⟩) = min2V (ev E x) (ev E y) := nr rfl
theorem eff_alloc : effA P w0 (ev E) (.alloc t) H K = (match P.bz t with | some (_, z) => K (.ptr (some H.n) 0) (H.alloc (absV z).cells) | none => False) := nr rfl
theorem run_alloc : Run (opA P w0 (.alloc t) E H K) = (match P.bz t with | some (_, z) => Run (K (.ptr (some H.n) 0) (H.alloc (absV z).cells)) | none => False) := nr rfl
theorem run_box : Run (opA P w0 (.box t x) E H K) = boxA (ev E x) H K := nr rfl
theorem run_buildSlice {n : Nat} {ps : Array (Nat × Operand)} : Run (opA P w0 (.buildSlice t n ps) E H K) = buildSliceA P t n (ps.toList.map fun p => (p.1, ev E p.2)) H K := nr rfl
theorem run_makeSlice : Run (opA P w0 (.makeSlice t x y) E H K) = makeA P t (ev E x) (ev E y) H K := nr rfl
theorem run_store : Run (opA P w0 (.store t x y) E H K) = storeA P t (ev E x) (ev E y) H K := nr rfl
theorem run_call {args : Array Operand} {ts : Array TypeId} : Run (opA P w0 (.call ⟨.value x, args, ts⟩) E H K) = callA P w0 (ev E x) (args.toList.map (ev E)) H K := nr rfl
theorem run_append : Run (opA P w0 (.call ⟨.builtin .append, #[x, y], #[t, u]⟩) E H K) = appendA P t u (ev E x) (ev E y) H K := nr rfl
theorem run_copy : Run (opA P w0 (.call ⟨.builtin .copy, #[x, y], #[t, u]⟩) E H K) = copyA P t (ev E x) (ev E y) H K := nr rfl
theorem run_clear : Run (opA P w0 (.call ⟨.builtin .clear, #[x], #[t]⟩) E H K) = clearA P t (ev E x) H K := nr rfl
theorem callA_func {g : FuncId} {fs cs args : List AV} : callA P w0 (.func (.func g) fs cs) args H K = (P.plain g = true ∧ ACall P w0 g (fs ++ args ++ cs) H K) := nr rfl
end vals
end

section
variable {P : Program} {w0 : World} {H : Heap} {E : Env} {K : AV → Heap → Prop}
theorem ev_tmp {t : Nat} : ev E (.tmp t) = E t := nr rfl
theorem ev_func {f : FuncId} : ev E (.func f) = .func (.func f) [] [] := nr rfl
theorem ev_int {k : IntKind} {n : Int} : ev E (.const (.int k n)) = .int k n := nr rfl
theorem ev_bool {b : Bool} : ev E (.const (.bool b)) = .bool b := nr rfl
theorem ev_str {s : ByteArray} : ev E (.const (.string s)) = .str s.data.toList := nr rfl
theorem ev_nil : ev E (.const (.slice none 0 0)) = .slice none 0 0 1 (some 0) := nr rfl
theorem ev_agg {cs : Array Value} : ev E (.const (.agg cs)) = .agg (cs.toList.map absCell) := nr rfl
theorem abs_int {k : IntKind} {n : Int} : absV (.int k n) = .int k n := nr rfl
theorem abs_bool {b : Bool} : absV (.bool b) = .bool b := nr rfl
theorem abs_str {s : ByteArray} : absV (.string s) = .str s.data.toList := nr rfl
theorem abs_nil : absV (.slice none 0 0) = .slice none 0 0 1 (some 0) := nr rfl
theorem abs_agg {cs : Array Value} : absV (.agg cs) = .agg (cs.toList.map absCell) := nr rfl
theorem absc_int {k : IntKind} {n : Int} : absCell (.int k n) = .int k n := nr rfl
theorem absc_bool {b : Bool} : absCell (.bool b) = .bool b := nr rfl
theorem absc_str {s : ByteArray} : absCell (.string s) = .str s.data.toList := nr rfl
theorem absc_nil : absCell (.slice none 0 0) = .slice none 0 0 1 (some 0) := nr rfl
theorem absc_ptr : absCell (.pointer none) = .ptr none 0 := nr rfl

/-! ### What operations give -/
section bin
variable {t : TypeId} {k : IntKind} {a b : Int} {u v : Bool} {s r : List UInt8}
theorem bin_add : binA P .add t (.int k a) (.int k b) = some (.int k (k.wrap (a + b))) := by simp [binA, intBin]
theorem bin_sub : binA P .sub t (.int k a) (.int k b) = some (.int k (k.wrap (a - b))) := by simp [binA, intBin]
theorem bin_mul : binA P .mul t (.int k a) (.int k b) = some (.int k (k.wrap (a * b))) := by simp [binA, intBin]
theorem bin_quo (h : b ≠ 0) : binA P .quo t (.int k a) (.int k b) = some (.int k (k.wrap (a.tdiv b))) := by simp [binA, intBin, h]
theorem bin_rem (h : b ≠ 0) : binA P .rem t (.int k a) (.int k b) = some (.int k (a.tmod b)) := by simp [binA, intBin, h]
theorem bin_and : binA P .and t (.int k a) (.int k b) = some (.int k (bits .and k a b)) := by simp [binA, intBin]
theorem bin_or : binA P .or t (.int k a) (.int k b) = some (.int k (bits .or k a b)) := by simp [binA, intBin]
theorem bin_xor : binA P .xor t (.int k a) (.int k b) = some (.int k (bits .xor k a b)) := by simp [binA, intBin]
theorem bin_andNot : binA P .andNot t (.int k a) (.int k b) = some (.int k (bits .andNot k a b)) := by simp [binA, intBin]
theorem bin_eql : binA P .eql t (.int k a) (.int k b) = some (.bool (decide (a = b))) := by simp [binA, intBin]
theorem bin_neq : binA P .neq t (.int k a) (.int k b) = some (.bool (!decide (a = b))) := by simp [binA, intBin]
theorem bin_lss : binA P .lss t (.int k a) (.int k b) = some (.bool (decide (a < b))) := by simp [binA, intBin]
theorem bin_leq : binA P .leq t (.int k a) (.int k b) = some (.bool (decide (a ≤ b))) := by simp [binA, intBin]
theorem bin_gtr : binA P .gtr t (.int k a) (.int k b) = some (.bool (decide (b < a))) := by simp [binA, intBin]
theorem bin_geq : binA P .geq t (.int k a) (.int k b) = some (.bool (decide (b ≤ a))) := by simp [binA, intBin]
theorem bin_shl {k' : IntKind} (h : 0 ≤ b) : binA P .shl t (.int k a) (.int k' b) = some (.int k (k.wrap (a * 2 ^ (min b.toNat k.bits)))) := by simp [binA, shiftA, show ¬ b < 0 by omega]
theorem bin_shr {k' : IntKind} (h : 0 ≤ b) : binA P .shr t (.int k a) (.int k' b) = some (.int k (a.fdiv (2 ^ (min b.toNat k.bits)))) := by simp [binA, shiftA, show ¬ b < 0 by omega]
theorem bin_seql : binA P .eql t (.str s) (.str r) = some (.bool (decide (s = r))) := by simp [binA]
theorem bin_sneq : binA P .neq t (.str s) (.str r) = some (.bool (!decide (s = r))) := by simp [binA]
theorem bin_beql (h : P.tk t = .bool) : binA P .eql t (.bool u) (.bool v) = some (.bool (decide (u = v))) := by simp [binA, h]
theorem bin_bneq (h : P.tk t = .bool) : binA P .neq t (.bool u) (.bool v) = some (.bool (!decide (u = v))) := by simp [binA, h]
theorem un_not : unA .not (.bool u) = some (.bool (!u)) := nr rfl
theorem un_neg : unA .neg (.int k a) = some (.int k (k.wrap (0 - a))) := nr rfl
theorem pick_some {x y : AV} : pickA (.bool u) x y = some (if u = true then x else y) := nr rfl
theorem extract_some {vs : List AV} {i : Nat} : extractA (.tuple vs) i = vs[i]? := nr rfl
theorem conv_some {d : TypeId} {k' : IntKind} (h : P.tk d = .int k') (h' : (P.underlying t).isSome = true) : convA P t d (.int k a) = some (.int k' (k'.wrap a)) := by simp [convA, h, h']
end bin
theorem field_ptr {fs : List FK} {b off f : Nat} : fieldAddrA (.struct fs) (.ptr (some b) off) f = (match fs[f]? with | some fk => if fk.size = 0 then none else some (.ptr (some b) (off + fk.off)) | none => none) := nr rfl
theorem field_agg {fs : List FK} {cs : List AV} {f : Nat} : fieldA (.struct fs) (.agg cs) f = (match fs[f]? with | some fk => partA fk.agg fk.size cs fk.off | none => none) := nr rfl
theorem field_fptr {fs : List FK} {cs : List AV} {f : Nat} : fieldAddrA (.struct fs) (.fptr cs) f = (match fs[f]? with | some fk => if fk.size = 0 then none else some (.fptr (cs.drop fk.off)) | none => none) := nr rfl
theorem idx_lst {e : TypeId} {s : Nat} {b : Option Nat} {len : Nat} {cs : List AV} {k : IntKind} {n : Int} (h0 : 0 ≤ n) (h1 : n < len) (h2 : 0 < s) : idxAddrA (.slice e s) (.lst b len s cs) (.int k n) = some (.fptr (cs.drop (n.toNat * s))) := by simp [idxAddrA, h0, h1, h2]
theorem idx_some {e : TypeId} {s : Nat} {b : Option Nat} {off len sz : Nat} {cap : Option Nat} {k : IntKind} {n : Int} (h0 : 0 ≤ n) (h1 : n < len) : idxAddrA (.slice e s) (.slice b off len sz cap) (.int k n) = some (.ptr b (off + n.toNat * s)) := by simp [idxAddrA, h0, h1]
theorem idx_str {l : List UInt8} {k : IntKind} {n : Int} (h0 : 0 ≤ n) : idxA .str (.str l) (.int k n) = (l[n.toNat]?).map fun c => .int .u8 c.toNat := by simp [idxA, h0]
theorem len_slice {e : TypeId} {s : Nat} {b : Option Nat} {off len sz : Nat} {cap : Option Nat} : lenA (.slice e s) (.slice b off len sz cap) = some (.int .i64 len) := nr rfl
theorem len_lst {e : TypeId} {s s' : Nat} {b : Option Nat} {len : Nat} {cs : List AV} : lenA (.slice e s) (.lst b len s' cs) = some (.int .i64 len) := nr rfl
theorem load_fptr {t : TypeId} {ag : Bool} {s : Nat} {cs : List AV} (hl : P.lk t = some (ag, s)) : loadA P H t (.fptr cs) = partA ag s cs 0 := by simp [loadA, hl]
theorem len_str {l : List UInt8} : lenA .str (.str l) = some (.int .i64 l.length) := nr rfl
theorem part_one {s : Nat} {cs : List AV} {off : Nat} : partA false s cs off = cs[off]? := nr rfl
theorem part_agg {s : Nat} {cs : List AV} {off : Nat} (h : off + s ≤ cs.length) : partA true s cs off = some (.agg ((cs.drop off).take s)) := by simp [partA, h]
theorem load_get {t : TypeId} {b off : Nat} {ag : Bool} {s : Nat} {cs : List AV} {wr : Bool} (hl : P.lk t = some (ag, s)) (h : H.get b = some (.cells cs wr)) : loadA P H t (.ptr (some b) off) = partA ag s cs off := by simp [loadA, hl, h]
theorem store_get {t : TypeId} {b off : Nat} {s : Nat} {cs : List AV} {v : AV} (hl : P.szO t = some s) (h : H.get b = some (.cells cs true)) (h1 : v.cells.length = s) (h2 : v.cells.all AV.one = true) (h3 : off + s ≤ cs.length) :
    storeA P t (.ptr (some b) off) v H K = Run (K .undef (H.put b (splice cs off v.cells))) := by simp [storeA, hl, h, h1, h2, h3, Run]
theorem get_alloc_new {cs : List AV} : (H.alloc cs).get H.n = some (.cells cs true) := by simp [Heap.alloc]
theorem get_alloc_old {cs : List AV} {b : Nat} (h : b ≠ H.n) : (H.alloc cs).get b = H.get b := by simp [Heap.alloc, h]
theorem n_alloc {cs : List AV} : (H.alloc cs).n = H.n + 1 := nr rfl
theorem get_put_new {cs : List AV} {b : Nat} : (H.put b cs).get b = some (.cells cs true) := by simp [Heap.put]
theorem get_put_old {cs : List AV} {b c : Nat} (h : c ≠ b) : (H.put b cs).get c = H.get c := by simp [Heap.put, h]
theorem n_put {cs : List AV} {b : Nat} : (H.put b cs).n = H.n := nr rfl
theorem get_kill_old {b c : Nat} (h : c ≠ b) : (H.kill b).get c = H.get c := by simp [Heap.kill, h]
theorem n_allocT : H.allocT.n = H.n + 1 := nr rfl
theorem n_kill {b : Nat} : (H.kill b).n = H.n := nr rfl
end
attribute [simp] Env.set_at Env.setO_some Env.setO_none guardV gv rdOf max2V min2V run_skip run_seq run_block run_exit run_ret run_region run_cond runC_true runC_false run_then run_then_ret run_then_exit run_inb run_in_ret run_in_exit thenN run_nil run_cons guardA_none guardA_some run_consG run_tnil run_val run_eff run_two runG_true runG_false runO_some stepV_some stepV_guard stepE_some stepE_nil stepE_guard val_move val_assign val_pick val_bin val_un val_conv val_fieldAddr val_field val_idxAddr val_idx val_slice val_extract val_build val_nil val_func val_load val_len val_cap val_max val_min run_alloc run_box run_buildSlice run_makeSlice run_store run_call run_append run_copy run_clear callA_func ev_tmp ev_func ev_int ev_bool ev_str ev_nil ev_agg abs_int abs_bool abs_str abs_nil abs_agg absc_int absc_bool absc_str absc_nil absc_ptr bin_add bin_sub bin_mul bin_quo bin_rem bin_and bin_or bin_xor bin_andNot bin_eql bin_neq bin_lss bin_leq bin_gtr bin_geq bin_shl bin_shr bin_seql bin_sneq bin_beql bin_bneq un_not un_neg pick_some extract_some conv_some field_ptr field_agg idx_some idx_str len_slice len_str part_one part_agg get_alloc_new get_alloc_old n_alloc get_put_new get_put_old n_put get_kill_old n_kill run_move run_assign run_pick run_bin run_un run_conv run_fieldAddr run_field run_idxAddr run_idx run_slice run_extract run_build run_nilc run_func run_load run_len run_cap run_max run_min
end Go.Abs
