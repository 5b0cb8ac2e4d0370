/- What the library's own contracts say, as told: new rows adopted; the sort. -/
import Derived.Test.YthkmbfifiojmhaaAbsV
import Derived.Sort.Grow
import Derived.Sort.Row
import Derived.Laws.AppendOwn
set_option linter.unusedSimpArgs false
set_option linter.unusedVariables false
namespace Go.Abs
open Go.RowKit Go.Sort
section
variable {P : Program} {w0 : World} {σ : Sig} {H : Heap} {w w' : World} {n0 off len sz : Nat} {b : Option Nat} {cap : Option Nat}
theorem Sim.adopt (hS : Sim w0 σ H w) (hb : Below w.heap.size w w') {g : Nat} {C : Array Value} {t : TypeId} (hg : w'.heap[g]? = some (.cells C t (0, 0))) (hge : w.heap.size ≤ g) (cs : List AV) (hl : cs.length ≤ C.size) (hr : VRs σ cs (C.toList.take cs.length)) :
    Sim w0 (σ.upd H.n (g, 0, C.size)) (H.alloc cs) w' := by
  have hS' := hS.later hb
  have hle := Sig.le_upd hS (g, 0, C.size)
  have hsz := hS.below.size
  refine ⟨hS'.below, fun b x hb => ?_, fun b o hb => ?_, fun b b' o o' p p' hne hb hb' hw hp hp' => ?_, fun g' i ci hi => hS'.fz g' i ci hi, fun b o p hb hw hp i ci hi => ?_⟩
  · simp only [Sig.upd] at hb
    simp only [Heap.alloc]
    split at hb
    · omega
    · have := hS.dom b x hb; omega
  · simp only [Heap.alloc] at hb
    by_cases e : b = H.n
    · rw [if_pos e] at hb
      cases hb
      refine ⟨(g, 0, C.size), by simp [Sig.upd, e], ?_⟩
      refine ⟨C, t, (0, 0), hg, by simpa using hl, Nat.le_refl _, ?_, fun _ => ⟨by omega, fun j _ _ => by omega⟩⟩
      simpa using VRs.mono hle _ _ hr
    · rw [if_neg e] at hb
      obtain ⟨p, hp, ho⟩ := hS'.obj b o hb
      exact ⟨p, hle.m _ _ hp, ho.mono hle rfl⟩
  · simp only [Heap.alloc] at hb hb'
    simp only [Sig.upd] at hp hp'
    by_cases e : b = H.n
    · have e' : b' ≠ H.n := fun x => hne (e.trans x.symm)
      rw [if_pos e] at hp; rw [if_neg e'] at hp' hb'
      cases hp
      obtain ⟨p1, hp1, ho1⟩ := hS.obj b' o' hb'
      rw [hp'] at hp1; cases hp1
      have := ho1.lt
      show g ≠ p'.1
      omega
    · rw [if_neg e] at hb hp
      by_cases e' : b' = H.n
      · rw [if_pos e'] at hp'
        cases hp'
        obtain ⟨p1, hp1, ho1⟩ := hS.obj b o hb
        rw [hp] at hp1; cases hp1
        have := ho1.lt
        show p.1 ≠ g
        omega
      · rw [if_neg e'] at hb' hp'
        exact hS.sep b b' o o' p p' hne hb hb' hw hp hp'
  · have hi' : σ.fr p.1 i ci := hi
    simp only [Heap.alloc] at hb
    simp only [Sig.upd] at hp
    by_cases e : b = H.n
    · rw [if_pos e] at hp
      cases hp
      have := (hS.fz _ _ _ hi').lt
      simp only at this
      omega
    · rw [if_neg e] at hb hp
      exact hS.own b o p hb hw hp i ci hi'
theorem VRs.ints (zs : List Int) : VRs σ (ints zs) (zs.map (Value.int .i64)) := by
  unfold Abs.ints
  exact VRs.map _ _ (fun x => by simp [VR]) zs
theorem VRs.ints_eq : ∀ {zs : List Int} {vs : List Value}, VRs σ (Abs.ints zs) vs → vs = zs.map (Value.int .i64)
  | [], [], _ => rfl
  | z :: zs, v :: vs, h => by
    simp only [Abs.ints, List.map_cons, VRs, VR] at h
    rw [List.map_cons, h.1, VRs.ints_eq h.2]
  | [], _ :: _, h => by simp [Abs.ints, VRs] at h
  | _ :: _, [], h => by simp [Abs.ints, VRs] at h
/-- A row that the call has come to own. -/
theorem Sim.owned (hS : Sim w0 σ H w) (hb : Below w.heap.size w w') {e : TypeId} {v : Value} {zs : List Int} (hO : w'.ownsRow w.heap.size e 1 v zs.length (zs.map (Value.int .i64))) (hn0 : n0 ≤ H.n) :
    ∃ σ' H' av, Sig.le σ σ' ∧ Sim w0 σ' H' w' ∧ VR σ' av v ∧ Ext H H' ∧ OwnV n0 H' av zs.length 1 (Abs.ints zs) := by
  rcases hO.2 with ⟨rfl, h0⟩ | ⟨g, c, cur, rfl, hge, hg, h1, h2, h3, h4⟩
  · have : zs = [] := List.eq_nil_of_length_eq_zero h0
    subst this
    exact ⟨σ, H, .slice none 0 0 1 (some 0), Sig.le_refl _, hS.later hb, by simp [VR], Ext.refl _, none, 0, some 0, rfl, OwnAt.nil⟩
  · have hcs : cur.size = c := by omega
    have hA := hS.adopt hb hg hge (Abs.ints zs) (by rw [ints_length]; omega) (by
      rw [ints_length, ← Nat.mul_one zs.length, h4]; exact VRs.ints zs)
    refine ⟨_, _, .slice (some H.n) 0 zs.length 1 none, Sig.le_upd hS _, hA, ?_, (Ext.refl H).alloc _, some H.n, 0, none, rfl, ?_⟩
    · simp only [VR]
      exact ⟨g, 0, cur.size, 0, c, by simp [Sig.upd], rfl, h1, fun _ => ⟨rfl, by omega⟩, fun c' e => by cases e⟩
    · refine ⟨by simp, .inr ⟨H.n, _, rfl, hn0, by simp, get_alloc_new, by simp, ?_, fun c' e => by cases e⟩⟩
      rw [List.drop_zero, Nat.mul_one, ← ints_length zs, List.take_length]
theorem RowAt.frozen {B0 : Nat} {p : Place} {cs : List AV} (h : RowAt σ B0 w p cs true) {i : Nat} (hi : i < cs.length) : w.frozen? ⟨p.1, p.2.1 + i, none⟩ = false := by
  obtain ⟨C, t, f, h1, h2, h3, h4, h5⟩ := h.row
  have := (h5 rfl).2 (p.2.1 + i) (by omega) (by omega)
  simp only [World.frozen?, h1]
  simpa using this
theorem Below.grow (w : World) (os : Array Obj) : Below w.heap.size w (Sort.grow w os) := by
  refine ⟨rfl, rfl, rfl, by simp [Sort.grow], fun k hk => ?_⟩
  show (w.heap ++ os)[k]? = _
  rw [Array.getElem?_append_left hk]
/-- Sorting in place, by the library's own contract. -/
theorem sort_call {f : FuncId} (l : List Int) (hlen : l.length < 4611686018427387904)
    (hsort : ∀ (blk off cap : Nat) (zs : List Int) (w : World), Holds (Value.int .i64) w blk off zs.toArray → blk < w.heap.size → zs.length < 4611686018427387904 →
      Calls P f #[.slice (some ⟨blk, off, none⟩) zs.length cap] w fun e w' => e = .returned (.tuple #[]) ∧ ∃ n os, w' = Sort.grow (putRow (Value.int .i64) (Sort.ahead w n) blk off (zs.mergeSort fun x y => decide (x ≤ y)).toArray) os)
    (hnone : ∀ (p : Option Addr) (cap : Nat) (w : World), Calls P f #[.slice p 0 cap] w fun e w' => e = .returned (.tuple #[]) ∧ w' = w)
    (hO : OwnAt n0 H b off l.length 1 cap (Abs.ints l)) :
    ACall P w0 f [.slice b off l.length 1 cap] H fun v H' => Keep b H H' ∧ H'.n = H.n ∧ OwnAt n0 H' b off l.length 1 cap (Abs.ints (l.mergeSort fun x y => decide (x ≤ y))) := by
  intro σ w args' hS ha
  obtain ⟨a0, h0, hr0⟩ := ha.get (i := 0) rfl
  have hargs : args' = #[a0] := by
    have hl := ha.length
    cases args' with
    | mk L => match L, hl with
      | [x], _ => simp at h0; subst h0; rfl
  subst hargs
  rcases Nat.eq_zero_or_pos l.length with h0 | hpos
  · have : l = [] := List.eq_nil_of_length_eq_zero h0
    subst this
    have hv : ∃ p c, a0 = .slice p 0 c := by
      cases b with
      | none => simp only [VR] at hr0; exact ⟨_, _, hr0.2.2⟩
      | some b => simp only [VR] at hr0; obtain ⟨_, _, _, _, _, _, h, _⟩ := hr0; exact ⟨_, _, h⟩
    obtain ⟨p, c, rfl⟩ := hv
    refine (hnone p c w).mono ?_
    rintro e w' ⟨rfl, rfl⟩
    refine ⟨σ, .tuple [], _, H, rfl, Sig.le_refl _, hS, by simp only [VR]; exact ⟨#[], rfl, trivial⟩, Keep.refl _ _, rfl, ?_⟩
    simpa using hO
  · rcases hO.row with ⟨h1, h2, h3⟩ | ⟨b', cs', h1, h2, hlt, h3, h4, h5, h6⟩
    · omega
    · subst h1
      simp only [VR] at hr0
      obtain ⟨g, k, e, o, c, hσ, rfl, hc1, hc2, hc3⟩ := hr0
      obtain ⟨rfl, hce⟩ := hc2 (by omega)
      obtain ⟨p, hp, hob⟩ := hS.obj b' _ h3
      rw [hσ] at hp; cases hp
      have hrow : RowAt σ w0.heap.size w (g, k, e) cs' true := hob
      have hcell : ∀ j (hj : j < l.length), cs'[off + j]? = some (.int .i64 l[j]) := by
        intro j hj
        have : (Abs.ints l)[j]? = some (.int .i64 l[j]) := by simp [Abs.ints, hj]
        rw [← h5, List.getElem?_take, if_pos (by omega), List.getElem?_drop] at this
        exact this
      have hH : Holds (Value.int .i64) w g (k + off) l.toArray := by
        intro j hj
        have hj' : j < l.length := by simpa using hj
        obtain ⟨v, hv, hvr⟩ := hrow.cell (hcell j hj')
        simp only [VR] at hvr
        subst hvr
        refine ⟨?_, ?_⟩
        · rw [Nat.add_assoc]
          rw [getElem!_pos _ j (by simpa using hj')]
          simpa using hv
        · rw [Nat.add_assoc]
          exact hrow.frozen (i := off + j) (by have := hcell j hj'; rw [List.getElem?_eq_some_iff] at this; exact this.1)
      obtain ⟨C, t, fz, hg, q2, q3, q4, q5⟩ := hrow.row
      have hglt : g < w.heap.size := (Array.getElem?_eq_some_iff.1 hg).1
      refine (hsort g (k + off) c l w hH hglt hlen).mono ?_
      rintro e' w' ⟨rfl, n, os, rfl⟩
      obtain ⟨s, hs⟩ : ∃ s, s = l.mergeSort fun x y => decide (x ≤ y) := ⟨_, rfl⟩
      have hsl : s.length = l.length := by rw [hs]; exact List.length_mergeSort _
      rw [← hs]
      have hg1 : (putRow (Value.int .i64) (Sort.ahead w n) g (k + off) s.toArray).heap[g]? = some (.cells (putCells (Value.int .i64) (k + off) s.toArray C) t fz) := by
        show (w.heap.modify g _)[g]? = _
        rw [Array.getElem?_modify, if_pos rfl]
        have : w.heap[g]? = some (.cells C t fz) := hg
        rw [this]; rfl
      have hS1 : Sim w0 σ (H.put b' (splice cs' off (Abs.ints s))) (putRow (Value.int .i64) (Sort.ahead w n) g (k + off) s.toArray) := by
        refine hS.change h3 hσ ⟨_, t, fz, hg1, ?_, by simpa [putCells] using q3, ?_, q5⟩ (fun c hc => ?_) (by simp [putRow, mapBlock]) rfl rfl rfl
        · rw [splice_length (by rw [ints_length]; omega)]; exact q2
        · refine VRs.of_get (by rw [splice_length (by rw [ints_length]; omega)]; have := q4.length; simp [putCells] at this ⊢; omega) fun i a v h1 h2 => ?_
          rw [splice_length (by rw [ints_length]; omega)] at h2
          rw [List.getElem?_take] at h2
          split at h2
          · rename_i hi
            rw [List.getElem?_drop] at h2
            simp only [putCells, Array.getElem?_toList, Array.getElem?_mapIdx] at h2
            by_cases hin : off ≤ i ∧ i < off + s.length
            · have e1 : (splice cs' off (Abs.ints s))[i]? = some (.int .i64 (s[i - off]'(by omega))) := by
                simp only [splice, List.getElem?_append, List.length_append, List.length_take, ints_length]
                rw [if_pos (by omega), if_neg (by omega), show i - min off cs'.length = i - off by omega]
                simp [Abs.ints, show i - off < s.length by omega]
              rw [e1] at h1
              cases h1
              obtain ⟨x, hx, h2⟩ := Option.map_eq_some_iff.1 h2
              rw [if_pos (by simp; omega)] at h2
              subst h2
              simp only [VR]
              congr 1
              rw [getElem!_pos _ _ (by simp; omega)]
              simp only [List.getElem_toArray]
              congr 1
              omega
            · have e1 : (splice cs' off (Abs.ints s))[i]? = cs'[i]? := by
                simp only [splice, List.getElem?_append, List.length_append, List.length_take, ints_length]
                by_cases hlo : i < off
                · rw [if_pos (by omega), if_pos (by omega), List.getElem?_take, if_pos hlo]
                · rw [if_neg (by omega), List.getElem?_drop]
                  congr 1
                  omega
              rw [e1] at h1
              obtain ⟨x, hx, h2⟩ := Option.map_eq_some_iff.1 h2
              rw [if_neg (by simp; omega)] at h2
              subst h2
              refine q4.get2 h1 ?_
              rw [List.getElem?_take, if_pos hi, List.getElem?_drop]
              simpa using hx
          · cases h2
        · show (w.heap.modify g _)[c]? = _
          rw [Array.getElem?_modify, if_neg (fun x => hc x.symm)]
      refine ⟨σ, .tuple [], _, H.put b' (splice cs' off (Abs.ints s)), rfl, Sig.le_refl _, hS1.later (Below.grow _ _), by simp only [VR]; exact ⟨#[], rfl, trivial⟩, ⟨Nat.le_refl _, fun c hc hne => by rw [get_put_old (fun x => hne (by rw [x]))]⟩, rfl, ?_⟩
      have hsp : (splice cs' off (Abs.ints s)).length = cs'.length := splice_length (by rw [ints_length]; omega)
      refine ⟨by rw [ints_length, hsl]; simp, .inr ⟨b', _, rfl, h2, hlt, get_put_new, by rw [hsp]; exact h4, ?_, fun c e => by rw [hsp]; exact h6 c e⟩⟩
      have := splice_inner (cs' := cs') (vs := Abs.ints s) (off := off) (n := l.length * 1) (k := 0) h4 (by rw [ints_length]; omega)
      rw [Nat.add_zero] at this
      rw [this, h5]
      simp only [splice]
      rw [List.take_zero, List.nil_append, List.drop_eq_nil_of_le (by rw [ints_length, ints_length]; omega), List.append_nil]
end
end Go.Abs
