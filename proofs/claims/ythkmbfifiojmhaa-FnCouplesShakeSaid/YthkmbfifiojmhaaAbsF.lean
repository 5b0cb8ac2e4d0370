/- All operations that touch no memory: the theorem. -/
import Derived.Test.YthkmbfifiojmhaaAbsE
set_option linter.unusedSimpArgs false
set_option linter.unusedVariables false
namespace Go.Abs
open Go.RowKit
section
variable {P : Program} {σ : Sig} {N : Nat} {E : Env} {a : Act}

theorem OV_map (hr : Rel N σ E a) (x : Option Operand) : OV σ (x.map (ev E)) (x.map a.eval) := by
  cases x with
  | none => trivial
  | some x => exact hr.ev x
theorem VRs_map (hr : Rel N σ E a) (l : List Operand) : VRs σ (l.map (ev E)) (l.map a.eval) := VRs.map _ _ (fun x => hr.ev x) l

theorem pureA_run {o : Oper} {r : AV} (h : pureA P (ev E) o.op = some r) (hr : Rel N σ E a) (w : World) :
    ∃ v, (execOp a.eval o).run P w = .ok (.value v) w ∧ VR σ r v := by
  obtain ⟨dst, op, type, pos, after, guard⟩ := o
  simp only at h
  cases op <;> simp only [pureA] at h <;> first | (cases h; done) | skip
  case move x => cases h; exact ⟨_, rfl, hr.ev x⟩
  case assign x => cases h; exact ⟨_, rfl, hr.ev x⟩
  case pick c x y =>
    have hc := hr.ev c
    split at h
    · rename_i t ht
      cases h
      rw [ht, VR_bool] at hc
      refine ⟨if t = true then a.eval x else a.eval y, by simp [execOp, hc, asBool], ?_⟩
      cases t
      · exact hr.ev y
      · exact hr.ev x
    · cases h
  case binOp op t x y yt =>
    obtain ⟨z, hz, hrz⟩ := binA_run h (hr.ev x) (hr.ev y) x y w
    exact ⟨z, by simp only [execOp]; rw [Sem.run_bind, hz]; rfl, hrz⟩
  case unOp op t x =>
    have hx := hr.ev x
    split at h
    · rename_i b hb; cases h; rw [hb, VR_bool] at hx; exact ⟨_, by simp [execOp, hx, Op.unary]; rfl, by simp [VR]⟩
    · rename_i k n hb; cases h; rw [hb, VR_int] at hx; exact ⟨_, by simp [execOp, hx, Op.unary, Op.intArith]; rfl, by simp [VR]⟩
    · rename_i k n hb; cases h; rw [hb, VR_int] at hx; exact ⟨_, by simp [execOp, hx, Op.unary, intBits_xor]; rfl, by simp [VR]⟩
    · cases h
  case convert src dst x =>
    have hx := hr.ev x
    split at h
    · rename_i k k' n hk hn hs
      cases h
      rw [hn, VR_int] at hx
      have hd := tk_int hk
      have hd' : P.underlying dst = some (.int (P.intKind dst)) := by simp [Program.intKind, hd]
      have := run_convert_int (P := P) w src dst k' n hs hd'
      have hkk : P.intKind dst = k := by simp [Program.intKind, hd]
      rw [hkk] at this
      exact ⟨.int k (k.wrap n), by simp only [execOp, hx]; rw [Sem.run_bind, this]; rfl, by simp [VR]⟩
    · cases h
  case fieldAddr s x f =>
    have hx := hr.ev x
    split at h
    · rename_i fs b off hs hp
      split at h
      · rename_i fk hf
        split at h
        · cases h
        · rename_i hz
          cases h
          obtain ⟨fs', fd, hu, hfd, ho, hl⟩ := tk_field hs hf
          obtain ⟨_, i, hi, hsz⟩ := lk_parts hl
          rw [hp] at hx
          simp only [VR] at hx ⊢
          obtain ⟨g, k, e, hσ, hv⟩ := hx
          have hz' : ¬ i.size = 0 := by rw [hsz]; exact hz
          refine ⟨.pointer (some ⟨g, k + off + fk.off, none⟩), ?_, g, k, e, hσ, by simp; omega⟩
          simp [execOp, Instr.fieldAt, run_underlying hu, hfd, hv, Instr.sureAddr, fieldPlace, run_sizeOf hi, hz', ho, Addr.add_lit]
      · cases h
    · rename_i fs cs hs hp
      split at h
      · rename_i fk hf
        split at h
        · cases h
        · rename_i hz
          cases h
          obtain ⟨fs', fd, hu, hfd, ho, hl⟩ := tk_field hs hf
          obtain ⟨_, i, hi, hsz⟩ := lk_parts hl
          rw [hp] at hx
          simp only [VR] at hx ⊢
          obtain ⟨g, o, vs, hv, hvs, hfr⟩ := hx
          have hz' : ¬ i.size = 0 := by rw [hsz]; exact hz
          have hfr' := hfr.drop fk.off vs.length
          rw [List.take_of_length_le (by simp)] at hfr'
          refine ⟨.pointer (some ⟨g, o + fk.off, none⟩), ?_, g, o + fk.off, vs.drop fk.off, rfl, hvs.drop _, by simpa [Addr.add_lit] using hfr'⟩
          simp [execOp, Instr.fieldAt, run_underlying hu, hfd, hv, Instr.sureAddr, fieldPlace, run_sizeOf hi, hz', ho, Addr.add_lit]
      · cases h
    · cases h
  case field t x f =>
    have hx := hr.ev x
    split at h
    · rename_i fs cs hs hp
      split at h
      · rename_i fk hf
        obtain ⟨fs', fd, hu, hfd, ho, hl⟩ := tk_field hs hf
        rw [hp] at hx
        simp only [VR] at hx
        obtain ⟨C, hv, hC⟩ := hx
        obtain ⟨v, hrun, hrv⟩ := partA_run hl h hC w
        exact ⟨v, by simp [execOp, Instr.field, run_underlying hu, hfd, hv, asAgg, ho, hrun], hrv⟩
      · cases h
    · cases h
  case indexAddr t x i =>
    have hx := hr.ev x
    have hi := hr.ev i
    split at h
    · rename_i e s b off len sz cap k n ht hp hn
      split at h
      · rename_i hb
        cases h
        obtain ⟨hu, inf, hinf, hsz⟩ := tk_slice ht
        rw [hn, VR_int] at hi
        rw [hp] at hx
        cases b with
        | none => simp only [VR] at hx; omega
        | some b =>
          simp only [VR] at hx ⊢
          obtain ⟨g, k', e', o, c, hσ, hv, h1, h2, h3⟩ := hx
          obtain ⟨ho, _⟩ := h2 (by omega)
          refine ⟨.pointer (some ⟨g, o + n.toNat * s, none⟩), ?_, g, k', e', hσ, by simp; omega⟩
          simp [execOp, Instr.indexAt, run_underlying hu, hv, hi, asIntOf, hb, run_sizeOf hinf, hsz, Addr.add_lit]
      · cases h
    · rename_i e s tk' len sz cs k n ht hp hn
      split at h
      · rename_i hb
        obtain ⟨hb1, hb2, hb3, hb4⟩ := hb
        subst hb3
        cases h
        obtain ⟨hu, inf, hinf, hsz⟩ := tk_slice ht
        rw [hn, VR_int] at hi
        rw [hp] at hx
        simp only [VR] at hx ⊢
        obtain ⟨a, c, vs, hv, hlc, hcl, hvs, hfr, _⟩ := hx
        have hvl := hvs.length
        have hlt : 0 < vs.length := by rw [← hvl, hcl]; exact Nat.mul_pos (by omega) hb4
        obtain ⟨g, o, ci, ha, _⟩ := hfr 0 vs[0] (by simp [hlt])
        subst ha
        have hfr' := hfr.drop (n.toNat * s) vs.length
        rw [List.take_of_length_le (by simp)] at hfr'
        have hb : 0 ≤ n ∧ n < (len : Int) := ⟨hb1, hb2⟩
        refine ⟨.pointer (some ⟨g, o + n.toNat * s, none⟩), ?_, g, o + n.toNat * s, vs.drop (n.toNat * s), rfl, hvs.drop _, by simpa [Addr.add_lit] using hfr'⟩
        simp [execOp, Instr.indexAt, run_underlying hu, hv, hi, asIntOf, hb, run_sizeOf hinf, hsz, Addr.add_lit]
      · cases h
    · rename_i m e ag s b off k n ht hp hn
      split at h
      · rename_i hb
        cases h
        obtain ⟨hu, hl⟩ := tk_array ht
        obtain ⟨_, inf, hinf, hsz⟩ := lk_parts hl
        rw [hn, VR_int] at hi
        rw [hp] at hx
        simp only [VR] at hx ⊢
        obtain ⟨g, k', e', hσ, hv⟩ := hx
        refine ⟨.pointer (some ⟨g, k' + off + n.toNat * s, none⟩), ?_, g, k', e', hσ, by simp; omega⟩
        simp [execOp, Instr.indexAt, run_underlying hu, hv, hi, asIntOf, hb, run_sizeOf hinf, hsz, Addr.add_lit, Instr.sureAddr]
      · cases h
    · cases h
  case index t x i =>
    have hx := hr.ev x
    have hi := hr.ev i
    split at h
    · rename_i l k n ht hp hn
      split at h
      · rename_i h0
        obtain ⟨c, hc, rfl⟩ := Option.map_eq_some_iff.1 h
        rw [hn, VR_int] at hi
        rw [hp, VR_str] at hx
        have hu := tk_str ht
        obtain ⟨hlt, hget⟩ := List.getElem?_eq_some_iff.1 hc
        have hs : n.toNat < (⟨l.toArray⟩ : ByteArray).size := by show _ < l.toArray.size; simpa using hlt
        have hg : (⟨l.toArray⟩ : ByteArray)[n.toNat]'hs = c := by show l.toArray[n.toNat]'hs = c; simpa using hget
        have hin : 0 ≤ n ∧ n < ((⟨l.toArray⟩ : ByteArray).size : Int) := by omega
        refine ⟨.int .u8 c.toNat, ?_, by simp [VR]⟩
        simp only [execOp, hx, hi]
        rw [Sem.run_bind, run_index_string w t _ _ _ hu, dif_pos hin]
        simp [hg]
      · cases h
    · rename_i m e ag s cs k n ht hp hn
      split at h
      · rename_i hb
        obtain ⟨hu, hl⟩ := tk_array ht
        obtain ⟨_, inf, hinf, hsz⟩ := lk_parts hl
        rw [hn, VR_int] at hi
        rw [hp] at hx
        simp only [VR] at hx
        obtain ⟨C, hv, hC⟩ := hx
        obtain ⟨v, hrun, hrv⟩ := partA_run hl h hC w
        exact ⟨v, by simp [execOp, Instr.index, run_underlying hu, hv, hi, asIntOf, hb, run_sizeOf hinf, hsz, hrun], hrv⟩
      · cases h
    · cases h
  case slice t x lo hi mx =>
    obtain ⟨z, hz, hrz⟩ := sliceA_run h (hr.ev x) (OV_map hr lo) (OV_map hr hi) (OV_map hr mx) w
    exact ⟨z, by simp only [execOp]; rw [Sem.run_bind, hz]; rfl, hrz⟩
  case extract x i =>
    have hx := hr.ev x
    split at h
    · rename_i vs hvs
      rw [hvs] at hx
      simp only [VR] at hx
      obtain ⟨C, hv, hC⟩ := hx
      obtain ⟨v, hg, hrv⟩ := hC.get h
      have hg' : C[i]? = some v := by simpa using hg
      exact ⟨v, by simp [execOp, Instr.extract, hv, hg'], hrv⟩
    · cases h
  case build t parts =>
    split at h
    · rename_i fs bb z ht hz
      obtain ⟨r', hf, rfl⟩ := Option.map_eq_some_iff.1 h
      obtain ⟨fs', hu, hm⟩ := tk_struct ht
      obtain ⟨inf, hinf, _, hzero⟩ := bz_parts hz
      have hplaces : ∃ places : Array (Nat × Nat), (fs'.mapM fun f => (do pure (f.offset, ← sizeOf f.type) : Sem (Nat × Nat))).run P w = .ok places w ∧ ∀ (i : Nat), places[i]? = (fs[i]?).map fun (f : FK) => (f.off, f.size) := by
        have key : ∀ (l : List Field) (m : List FK), l.mapM P.fk = some m → (l.mapM fun f => (do pure (f.offset, ← sizeOf f.type) : Sem (Nat × Nat))).run P w = .ok (m.map fun (f : FK) => (f.off, f.size)) w := by
          intro l
          induction l with
          | nil => intro m hm; simp at hm; subst hm; rfl
          | cons f l ih =>
            intro m hm
            simp only [List.mapM_cons, Option.bind_eq_bind, Option.pure_def, Option.bind_eq_some_iff] at hm
            obtain ⟨q, hq, m', hm', hmm⟩ := hm
            cases hmm
            unfold Program.fk at hq
            split at hq
            · rename_i ag s hl
              cases hq
              obtain ⟨_, inf', hinf', hsz'⟩ := lk_parts hl
              simp only [List.mapM_cons, Sem.run_bind, run_sizeOf hinf', Result.andThen_ok, Sem.run_pure, ih m' hm', hsz', List.map_cons]
            · cases hq
        refine ⟨(fs.map fun f => (f.off, f.size)).toArray, ?_, fun i => by simp⟩
        have := key fs'.toList fs hm
        rw [Array.mapM_eq_mapM_toList]
        rw [Sem.run_map, this]
        rfl
      obtain ⟨places, hpl, hpg⟩ := hplaces
      have hfill : (fun i => places[i]?) = fun i => (fs[i]?).map fun (f : FK) => (f.off, f.size) := funext hpg
      have hzc : VRs σ (absV z).cells z.cells.toList := by
        have hv := VR_absV σ z
        cases hz' : absV z with
        | agg cs => rw [hz'] at hv; simp only [VR] at hv; obtain ⟨cs', rfl, h1⟩ := hv; exact h1
        | _ =>
          rw [hz'] at hv
          have hl : z.cells = #[z] := by
            cases z <;> first | rfl | (simp [absV] at hz')
          rw [hl]; simp only [AV.cells, VRs]; exact ⟨hv, trivial⟩
      obtain ⟨D, hD, hrD⟩ := fillA_run (parts' := parts.toList.map fun p => (p.1, a.eval p.2)) hf hzc (by simp [Function.comp_def]) (by
        have := VRs.map (σ := σ) (fun p : Nat × Operand => ev E p.2) (fun p => a.eval p.2) (fun p => hr.ev p.2) parts.toList
        simpa [Function.comp_def] using this)
      refine ⟨.agg D, ?_, by simp only [VR]; exact ⟨D, rfl, hrD⟩⟩
      have hparts : (parts.map fun (x : Nat × Operand) => (x.1, a.eval x.2)).toList = parts.toList.map fun p => (p.1, a.eval p.2) := by simp
      simp only [execOp, Instr.build, Sem.run_bind]
      have hzr : (zeroValue t).run P w = .ok z w := by simp [zeroValue, typeInfo, hinf, hzero]
      simp only [hzr, Result.andThen_ok, run_underlying hu, Sem.run_bind, hpl, hfill]
      rw [show (parts.map fun x => match x with | (i, x) => (i, a.eval x)).toList = parts.toList.map fun p => (p.1, a.eval p.2) by simp]
      rw [hD]
      rfl
    · cases h
  case nilCheck x =>
    have hx := hr.ev x
    split at h
    · rename_i b off hb
      cases h
      rw [hb] at hx
      simp only [VR] at hx ⊢
      obtain ⟨g, k, e, hσ, hv⟩ := hx
      exact ⟨.pointer (some ⟨g, k + off, none⟩), by simp [execOp, hv], g, k, e, hσ, rfl⟩
    · rename_i cs hb
      cases h
      rw [hb] at hx
      simp only [VR] at hx ⊢
      obtain ⟨g, o, vs, hv, h1⟩ := hx
      exact ⟨.pointer (some ⟨g, o, none⟩), by simp [execOp, hv], g, o, vs, rfl, h1⟩
    · cases h
  case makeFunc fn first captured =>
    cases h
    refine ⟨.func fn (first.map a.eval) (captured.map a.eval), by simp [execOp, Instr.makeFunc], ?_⟩
    simp only [VR]
    exact ⟨_, _, rfl, by simpa using VRs_map hr first.toList, by simpa using VRs_map hr captured.toList⟩
  case call c =>
    obtain ⟨callee, args, argTypes⟩ := c
    simp only at h
    split at h
    · rename_i x t hargs htys
      obtain rfl : args = #[x] := by cases args; simp_all
      obtain rfl : argTypes = #[t] := by cases argTypes; simp_all
      have hx := hr.ev x
      split at h
      · rename_i e s b off len sz cap ht hp
        cases h
        rw [hp] at hx
        obtain ⟨ad, c, hv, _⟩ := VR_slice_form hx
        obtain ⟨hu, _⟩ := tk_slice ht
        exact ⟨.int .i64 len, by simp [execOp, resolve, invoke, builtin, Builtin.len_, run_underlying hu, hv, goInt], by simp [VR]⟩
      · rename_i e s tk' len sz cs ht hp
        cases h
        rw [hp] at hx
        simp only [VR] at hx
        obtain ⟨ad, c, vs, hv, _⟩ := hx
        obtain ⟨hu, _⟩ := tk_slice ht
        exact ⟨.int .i64 len, by simp [execOp, resolve, invoke, builtin, Builtin.len_, run_underlying hu, hv, goInt], by simp [VR]⟩
      · rename_i s ht hp
        cases h
        rw [hp, VR_str] at hx
        have hu := tk_str ht
        have hsz : (⟨s.toArray⟩ : ByteArray).size = s.length := by show s.toArray.size = _; simp
        exact ⟨.int .i64 s.length, by simp [execOp, resolve, invoke, builtin, Builtin.len_, run_underlying hu, hx, goInt, hsz], by simp [VR]⟩
      · cases h
    · rename_i x t hargs htys
      obtain rfl : args = #[x] := by cases args; simp_all
      obtain rfl : argTypes = #[t] := by cases argTypes; simp_all
      have hx := hr.ev x
      split at h
      · rename_i e s b off len sz c ht hp
        cases h
        rw [hp] at hx
        obtain ⟨ad, c', hv, _, hcc⟩ := VR_slice_form hx
        have := hcc c rfl
        subst this
        obtain ⟨hu, _⟩ := tk_slice ht
        exact ⟨.int .i64 c', by simp [execOp, resolve, invoke, builtin, Builtin.cap_, run_underlying hu, hv, goInt], by simp [VR]⟩
      · cases h
    · rename_i x y hargs
      obtain rfl : args = #[x, y] := by cases args; simp_all
      have hx := hr.ev x
      have hy := hr.ev y
      split at h
      · rename_i k p k' q hp hq
        cases h
        rw [hp, VR_int] at hx
        rw [hq, VR_int] at hy
        exact ⟨.int k (max2A k p q), by simp [execOp, resolve, invoke, builtin, Builtin.max_, Builtin.max2, hx, hy, max2A], by simp [VR]⟩
      · cases h
    · rename_i x y hargs
      obtain rfl : args = #[x, y] := by cases args; simp_all
      have hx := hr.ev x
      have hy := hr.ev y
      split at h
      · rename_i k p k' q hp hq
        cases h
        rw [hp, VR_int] at hx
        rw [hq, VR_int] at hy
        exact ⟨.int k (min2A k p q), by simp [execOp, resolve, invoke, builtin, Builtin.min_, Builtin.min2, hx, hy, min2A], by simp [VR]⟩
      · cases h
    · cases h
end
end Go.Abs
