/- All operations that make or write memory, and calls: the theorem. -/
import Derived.Test.YthkmbfifiojmhaaAbsJ
import Derived.Laws.BytesArg
set_option linter.unusedSimpArgs false
set_option linter.unusedVariables false
namespace Go.Abs
open Go.RowKit
section
variable {P : Program} {w0 : World} {σ : Sig} {H : Heap} {w : World} {K : AV → Heap → Prop} {N : Nat} {E : Env} {a : Act}

def After (P : Program) (w0 : World) (σ : Sig) (K : AV → Heap → Prop) (o : Oper) (a a' : Act) (w' : World) : Prop :=
  ∃ σ' v v' H', a' = a.put o.dst v' ∧ Sig.le σ σ' ∧ Sim w0 σ' H' w' ∧ VR σ' v v' ∧ K v H'

theorem wp_of_eff {o : Oper} {Q : Exit → Act → World → Prop} {s : Sem Value} (hx : execOp a.eval o = (do let r ← s; pure (.value r))) (h : Eff P w0 σ K (s.run P w)) : o.wp P a w (After P w0 σ K o a) Q := by
  obtain ⟨v', w', σ', v, H', hr, h1, h2, h3, h4⟩ := h
  unfold Oper.wp
  rw [hx, Sem.run_bind, hr]
  exact ⟨σ', v, v', H', rfl, h1, h2, h3, h4⟩

theorem bytesOf_vals {σ : Sig} : ∀ {as : List AV} {l : List UInt8} {vs : List Value}, bytesOf as = some l → VRs σ as vs → ∃ ns : List Int, vs = ns.map (fun n => Value.int .u8 n) ∧ l = ns.map fun n => UInt8.ofNat n.toNat
  | [], l, vs, h, hv => by
    cases vs with
    | nil => simp [bytesOf] at h; subst h; exact ⟨[], rfl, rfl⟩
    | cons _ _ => simp only [VRs] at hv
  | x :: as, l, vs, h, hv => by
    cases vs with
    | nil => simp only [VRs] at hv
    | cons v vs =>
      simp only [VRs] at hv
      unfold bytesOf at h
      split at h <;> first | (cases h; done) | skip
      rename_i heq
      cases heq
      rename_i n r heq
      cases heq
      obtain ⟨l', hl, rfl⟩ := Option.map_eq_some_iff.1 h
      obtain ⟨ns, h1, h2⟩ := bytesOf_vals hl hv.2
      have := hv.1
      rw [VR_int] at this
      exact ⟨n :: ns, by simp [this, h1], by simp [h2]⟩

theorem bytesStrA_run (hS : Sim w0 σ H w) {src dst : TypeId} {x : AV} (h : bytesStrA P src dst x H K) {x' : Value} (hx : VR σ x x') :
    Eff P w0 σ K ((convert src dst x').run P w) := by
  unfold bytesStrA at h
  split at h
  · rename_i e ht hd
    obtain ⟨ht', i, hi, his⟩ := tk_slice ht
    have hd' := tk_str hd
    split at h
    · exact h.elim
    rename_i len sz hl
    split at h
    · rename_i l he hb
      obtain ⟨hsn, h⟩ := h
      have he' := tk_int he
      obtain ⟨cs, hcs, hbs⟩ := Option.bind_eq_some_iff.1 hb
      have hlen := cellsA_len hcs
      obtain ⟨a, c, vs, rfl, hlc, hvl, hvr, hvc⟩ := cellsA_run hS hx hcs (lenOf_some hl) (by
        rcases hsn with h | h
        · subst h; simp
        · subst h; simp)
      rcases Nat.eq_zero_or_pos len with h0 | h0
      · subst h0
        have : cs = [] := List.eq_nil_of_length_eq_zero hlen
        subst this
        simp [bytesOf] at hbs
        subst hbs
        cases a with
        | none =>
          refine ⟨_, w, σ, .str [], H, run_convert_bytes_nil w src e ht' he' _ _ dst hd', Sig.le_refl _, hS, ?_, h⟩
          simp [VR]; rfl
        | some ad =>
          have := run_convert_bytes_string (P := P) w src dst e ad 0 c ht' he' hd'
          refine ⟨.string ByteArray.empty, w, σ, .str [], H, ?_, Sig.le_refl _, hS, ?_, h⟩
          · rw [this, run_bytesToString w ad 0 c [] rfl]
            rfl
          · simp [VR]; rfl
      · obtain ⟨ad, rfl, hcell⟩ := hvc h0
        obtain ⟨ns, rfl, rfl⟩ := bytesOf_vals hbs hvr
        simp only [List.length_map] at hvl
        obtain ⟨g, o, pth⟩ := ad
        have hp : pth = none := by
          rcases lenOf_some hl with ⟨b, off, cap, rfl⟩ | ⟨t, cs', rfl⟩
          · cases b with
            | none => simp only [VR] at hx; obtain ⟨_, _, hx⟩ := hx; cases hx
            | some b => simp only [VR] at hx; obtain ⟨_, _, _, _, _, _, hx, _⟩ := hx; cases hx; rfl
          · simp only [VR] at hx
            obtain ⟨a', c', us, hv, _, h2, h3, h4, _⟩ := hx
            cases hv
            have hul := h3.length
            have hsz : sz = 1 := by rcases hsn with h | h; exact h; omega
            subst hsz
            obtain ⟨_, _, _, e, _⟩ := h4 0 (us[0]'(by omega)) (List.getElem?_eq_getElem (by omega))
            cases e; rfl
        subst hp
        refine ⟨_, w, σ, .str _, H, run_convert_bytes_arg (P := P) w src e ht' he' g o len c ns hvl (fun j hj => ?_) dst hd', Sig.le_refl _, hS, ?_, h⟩
        · have := hcell j (.int .u8 (ns.getD j 0)) (by simp [List.getElem?_eq_getElem (show j < ns.length by omega), List.getD_eq_getElem?_getD])
          rwa [Addr.add_lit] at this
        · simp only [VR]; rfl
    · exact h.elim
  · exact h.elim

theorem effA_sound {o : Oper} (h : effA P w0 (ev E) o.op H K) (hr : Rel N σ E a) (hS : Sim w0 σ H w) {Q : Exit → Act → World → Prop} : o.wp P a w (After P w0 σ K o a) Q := by
  obtain ⟨dst, op, type, pos, after, guard⟩ := o
  simp only at h
  cases op <;> simp only [effA] at h <;> first | exact h.elim | skip
  case alloc t =>
    split at h
    · rename_i b z hbz
      obtain ⟨i, hi, _, hiz⟩ := bz_parts hbz
      refine wp_of_eff (s := Instr.alloc t true (.tuple #[])) (by simp [execOp]) ?_
      have hrun : (Instr.alloc t true (.tuple #[])).run P w = .ok (.pointer (some ⟨w.heap.size, 0, none⟩)) (w.alloc (.cells z.cells t)) := by
        simp [Instr.alloc, zeroValue, typeInfo, hi, hiz, newVar, newRow]
      rw [hrun]
      exact hS.newRow (P := P) (off := 0) z.cells t _ (absV_cells z) h
    · exact h.elim
  case box t x =>
    obtain ⟨h1, hk⟩ := h
    refine wp_of_eff (s := Instr.box t (a.eval x)) (by simp [execOp]) ?_
    have hrun : (Instr.box t (a.eval x)).run P w = .ok (.pointer (some ⟨w.heap.size, 0, none⟩)) (w.alloc (.cells (a.eval x).cells t)) := by
      simp [Instr.box, newVar, newRow]
    rw [hrun]
    rcases hk with hk | hk
    · exact hS.newRow (P := P) (off := 0) _ t _ ((hr.ev x).cells h1) hk
    · exact hS.newFptr (P := P) _ t _ ((hr.ev x).cells h1) hk
  case buildSlice t len parts =>
    refine wp_of_eff (s := Instr.buildSlice t len (parts.map fun (x : Nat × Operand) => (x.1, a.eval x.2))) (by simp [execOp]) ?_
    refine buildSliceA_run hS h (by simp [Function.comp_def]) ?_
    have := VRs.map (σ := σ) (fun p : Nat × Operand => ev E p.2) (fun p => a.eval p.2) (fun p => hr.ev p.2) parts.toList
    simpa [Function.comp_def] using this
  case store t x v =>
    obtain ⟨w', H', hrun, hS', hk⟩ := storeA_run hS h (hr.ev x) (hr.ev v)
    unfold Oper.wp
    simp only [execOp, Sem.run_bind, hrun, Result.andThen_ok, Sem.run_pure]
    exact ⟨σ, .undef, undef, H', rfl, Sig.le_refl _, hS', by simp only [VR], hk⟩
  case convert src dst x =>
    exact wp_of_eff (s := convert src dst (a.eval x)) (by simp [execOp]) (bytesStrA_run hS h (hr.ev x))
  case makeSlice t l c =>
    exact wp_of_eff (s := Instr.makeSlice t (a.eval l) (a.eval c)) (by simp [execOp]) (makeA_run hS h (hr.ev l) (hr.ev c))
  case call c =>
    obtain ⟨callee, args, argTypes⟩ := c
    simp only at h
    split at h
    · rename_i f
      split at h
      · rename_i g first cap hf
        obtain ⟨hp, hc⟩ := h
        have hfv := hr.ev f
        rw [hf] at hfv
        simp only [VR] at hfv
        obtain ⟨fs', cs', hfe, h1, h2⟩ := hfv
        unfold Program.plain at hp
        split at hp
        · rename_i fn hfn
          simp only [Bool.and_eq_true, bne_iff_ne, ne_eq] at hp
          obtain ⟨hn1, hn2⟩ := hp
          have hbn : fn.body ≠ none := by intro hb; simp [hb] at hn2
          have hargs : VRs σ (first ++ args.toList.map (ev E) ++ cap) (fs' ++ args.map a.eval ++ cs').toList := by
            simp only [Array.toList_append, Array.toList_map]
            exact (h1.append (VRs.map _ _ (fun x => hr.ev x) args.toList)).append h2
          have hcall := hc σ w _ hS hargs
          unfold Oper.wp
          have hrun : (execOp a.eval { dst := dst, op := .call { callee := .value f, args := args, argTypes := argTypes }, type := type, pos := pos, after := after, guard := guard }).run P w = .ok (.enter g (fs' ++ args.map a.eval ++ cs')) w := by
            simp [execOp, resolve, hfe, Deferred.ofValue, invoke, callFunc, hfn, hn1, hbn]
          rw [hrun, Oper.upon_enter]
          refine hcall.mono fun e w' ⟨σ', v, v', H', he, q1, q2, q3, q4⟩ => ?_
          subst he
          exact ⟨σ', v, v', H', rfl, q1, q2, q3, q4⟩
        · cases hp
      · exact h.elim
    · split at h
      · rename_i s x t u hargs htys
        obtain rfl : args = #[s, x] := by cases args; simp_all
        obtain rfl : argTypes = #[t, u] := by cases argTypes; simp_all
        exact wp_of_eff (s := Builtin.append_ #[t, u] type #[a.eval s, a.eval x]) (by simp [execOp, resolve, invoke, builtin]) (appendA_run hS h (hr.ev s) (hr.ev x))
      · exact h.elim
    · split at h
      · rename_i d s t tys hargs htys
        obtain rfl : args = #[d, s] := by cases args; simp_all
        obtain rfl : argTypes = (t :: tys).toArray := by cases argTypes; simp_all
        exact wp_of_eff (s := Builtin.copy_ (t :: tys).toArray type #[a.eval d, a.eval s]) (by simp [execOp, resolve, invoke, builtin]) (copyA_run hS h (hr.ev d) (hr.ev s))
      · exact h.elim
    · split at h
      · rename_i d t hargs htys
        obtain rfl : args = #[d] := by cases args; simp_all
        obtain rfl : argTypes = #[t] := by cases argTypes; simp_all
        exact wp_of_eff (s := Builtin.clear_ #[t] type #[a.eval d]) (by simp [execOp, resolve, invoke, builtin]) (clearA_run hS h (hr.ev d))
      · exact h.elim
    · exact h.elim
end
end Go.Abs
