/- append, make, literals, copy, clear. -/
import Derived.Test.YthkmbfifiojmhaaAbsH
import Derived.Laws.IdiomStrings
set_option linter.unusedSimpArgs false
set_option linter.unusedVariables false
namespace Go.Abs
open Go.RowKit
section
variable {P : Program} {w0 : World} {σ : Sig} {H : Heap} {w : World} {K : AV → Heap → Prop}

theorem run_append_room {t u ty e e2 : TypeId} {i : TypeInfo} (ht : P.underlying t = some (.slice e)) (hu : P.underlying u = some (.slice e2)) (hi : P.info? e = some i)
    {base : Addr} {sLen sCap : Nat} {a : Option Addr} {n c : Nat} {news : List Value} (hl : news.length = n * i.size) (hn : 0 < n * i.size → ∃ ad, a = some ad ∧ ∀ (j : Nat) v, news[j]? = some v → w.cell? (ad.add j) = some v)
    (hroom : sLen + n ≤ sCap) {w' : World} (hst : (storeCells (base.add (sLen * i.size)) news).run P w = .ok () w') :
    (Builtin.append_ #[t, u] ty #[.slice (some base) sLen sCap, .slice a n c]).run P w = .ok (.slice (some base) (sLen + n) sCap) w' := by
  have hf : (Builtin.firstCells i.size n (.slice a n c)).run P w = .ok news.toArray w := by
    cases a with
    | none =>
      have : news = [] := by
        rcases Nat.eq_zero_or_pos (n * i.size) with h | h
        · exact List.eq_nil_of_length_eq_zero (by omega)
        · obtain ⟨ad, h1, _⟩ := hn h; cases h1
      subst this
      simp [Builtin.firstCells]
    | some ad =>
      refine run_firstCells_some w i.size n ad n c news hl fun j v hv => ?_
      rcases Nat.eq_zero_or_pos (n * i.size) with h | h
      · have : news = [] := List.eq_nil_of_length_eq_zero (by omega)
        subst this; simp at hv
      · obtain ⟨ad', h1, h2⟩ := hn h
        cases h1
        exact h2 j v hv
  simp [Builtin.append_, run_underlying ht, run_underlying hu, sizeOf, typeInfo, hi, Builtin.lenOf, hroom, hf, hst]

theorem run_append_new {t u ty e e2 : TypeId} {i : TypeInfo} {z : Value} (ht : P.underlying t = some (.slice e)) (hu : P.underlying u = some (.slice e2)) (hi : P.info? e = some i) (hz : i.zero = some z)
    {b : Option Addr} {sLen sCap : Nat} {olds : List Value} (hlo : olds.length = sLen * i.size) (holds : 0 < sLen * i.size → ∃ ad, b = some ad ∧ ∀ (j : Nat) v, olds[j]? = some v → w.cell? (ad.add j) = some v)
    {a : Option Addr} {n c : Nat} {news : List Value} (hl : news.length = n * i.size) (hn : 0 < n * i.size → ∃ ad, a = some ad ∧ ∀ (j : Nat) v, news[j]? = some v → w.cell? (ad.add j) = some v)
    (hg : sCap < sLen + n) (hle : sLen + n ≤ 140737488355328) (hb : (sLen + n) * i.bytes ≤ 140737488355328) :
    (Builtin.append_ #[t, u] ty #[.slice b sLen sCap, .slice a n c]).run P w =
      .ok (.slice (some ⟨w.heap.size, 0, none⟩) (sLen + n) (grownCap w (sLen + n) sCap e))
        (w.drew.alloc (.cells (olds.toArray ++ news.toArray ++ Builtin.zeroCells z.cells (grownCap w (sLen + n) sCap e - (sLen + n))) e)) := by
  have hno : ¬ (sLen + n ≤ sCap) := by omega
  have h63' : ¬ (9223372036854775807 < ((sLen : Int) + (n : Int))) := by omega
  have h48 := growslice_fits (bytes := i.bytes) hg hb
  have h48' : ¬ (281474976710656 < Builtin.nextslicecap (sLen + n) sCap * i.bytes) := by omega
  have first : ∀ (W : World) (q : Option Addr) (m cc : Nat) (xs : List Value), xs.length = m * i.size → (0 < m * i.size → ∃ ad, q = some ad ∧ ∀ (j : Nat) v, xs[j]? = some v → W.cell? (ad.add j) = some v) →
      (Builtin.firstCells i.size m (.slice q m cc)).run P W = .ok xs.toArray W := by
    intro W q m cc xs hx hxs
    cases q with
    | none =>
      have : xs = [] := by
        rcases Nat.eq_zero_or_pos (m * i.size) with h | h
        · exact List.eq_nil_of_length_eq_zero (by omega)
        · obtain ⟨ad, h1, _⟩ := hxs h; cases h1
      subst this
      simp [Builtin.firstCells]
    | some ad =>
      refine run_firstCells_some W i.size m ad m cc xs hx fun j v hv => ?_
      rcases Nat.eq_zero_or_pos (m * i.size) with h | h
      · have : xs = [] := List.eq_nil_of_length_eq_zero (by omega)
        subst this; simp at hv
      · obtain ⟨ad', h1, h2⟩ := hxs h
        cases h1
        exact h2 j v hv
  have hf := first w.drew a n c news hl (fun h => by obtain ⟨ad, h1, h2⟩ := hn h; exact ⟨ad, h1, fun j v hv => by simpa using h2 j v hv⟩)
  have hfo := first w.drew b sLen sCap olds hlo (fun h => by obtain ⟨ad, h1, h2⟩ := holds h; exact ⟨ad, h1, fun j v hv => by simpa using h2 j v hv⟩)
  simp [Builtin.append_, run_underlying ht, run_underlying hu, sizeOf, typeInfo, zeroValue, hi, hz, Builtin.lenOf, hno, h63', h48', Question.forced, hf, hfo, newRow, grownCap]
  congr 2
  apply Array.ext'
  simp [List.append_assoc]

theorem grownCap_le (w : World) (need old : Nat) (e : TypeId) : need ≤ grownCap w need old e := by
  simp only [grownCap, Question.cut]; omega

theorem rowA_len {b : Option Nat} {off n : Nat} {cs : List AV} (h : rowA H b off n = some cs) : cs.length = n := by
  unfold rowA at h
  split at h
  · cases h; simp_all
  · split at h
    · split at h
      · split at h
        · cases h; simp; omega
        · cases h
      · cases h
    · cases h

theorem appendA_run (hS : Sim w0 σ H w) {t u ty : TypeId} {s x : AV} (h : appendA P t u s x H K) {s' x' : Value} (hs : VR σ s s') (hx : VR σ x x') :
    Eff P w0 σ K ((Builtin.append_ #[t, u] ty #[s', x']).run P w) := by
  unfold appendA at h
  split at h
  · rename_i e sz e2 sz2' b off len sz1 cap b2 off2 n sz2 cap2 ht hu
    obtain ⟨hsz, h⟩ := h
    obtain ⟨ht', i, hi, his⟩ := tk_slice ht
    obtain ⟨hu', _⟩ := tk_slice hu
    split at h
    · rename_i h0
      subst h0
      obtain ⟨a, c, rfl, hlc, hcc⟩ := VR_slice_form hs
      obtain ⟨a2, c2, rfl, _, _⟩ := VR_slice_form hx
      refine ⟨.slice a len c, w, σ, _, H, ?_, Sig.le_refl _, hS, hs, h⟩
      cases a <;> cases a2 <;> simp [Builtin.append_, run_underlying ht', run_underlying hu', sizeOf, typeInfo, hi, Builtin.lenOf, hlc, Builtin.firstCells, loadCells, loadCellsFrom, storeCells]
    · rename_i hn0
      split at h
      · rename_i bytes z old new hbz hold hnew
        obtain ⟨hzz, hone, h⟩ := h
        obtain ⟨i', hi', hib, hiz⟩ := bz_parts hbz
        rw [hi] at hi'; cases hi'
        have hx2 : VR σ (.slice b2 off2 n sz2 cap2) x' := hx
        have holdl := rowA_len hold
        have hnewl := rowA_len hnew
        have hs' : VR σ (.slice b off len sz cap) s' := by
          rcases hsz with h | h
          · subst h; exact hs
          · subst h; simp only [VR] at hs ⊢; exact hs
        have hx3 : VR σ (.slice b2 off2 n sz cap2) x' ∨ True := .inr trivial
        -- the new cells
        have hnews : ∃ a2 c2 vs, x' = .slice a2 n c2 ∧ vs.length = n * sz ∧ VRs σ new vs ∧ (0 < n * sz → ∃ ad, a2 = some ad ∧ ∀ (j : Nat) v, vs[j]? = some v → w.cell? (ad.add j) = some v) := by
          rcases Nat.eq_zero_or_pos (n * sz) with h0 | h0
          · obtain ⟨a2, c2, rfl, _, _⟩ := VR_slice_form hx
            have : new = [] := List.eq_nil_of_length_eq_zero (by omega)
            subst this
            exact ⟨a2, c2, [], rfl, by simp [h0], by simp only [VRs], fun h => by omega⟩
          · unfold rowA at hnew
            rw [if_neg (by omega)] at hnew
            split at hnew
            · rename_i b2
              split at hnew
              · rename_i cs' wr hb
                split at hnew
                · rename_i hle
                  cases hnew
                  simp only [VR] at hx
                  obtain ⟨g, k, e', o, c, hσ, rfl, hlc, ho, _⟩ := hx
                  obtain ⟨rfl, _⟩ := ho (by omega)
                  obtain ⟨p, hp, hrow⟩ := hS.obj b2 _ hb
                  rw [hσ] at hp; cases hp
                  obtain ⟨vs, hvl, hvr, _, hcell⟩ := RowAt.load (P := (default : Program)) hrow hle
                  exact ⟨_, c, vs, rfl, hvl, hvr, fun _ => ⟨_, rfl, hcell⟩⟩
                · cases hnew
              · cases hnew
            · cases hnew
        obtain ⟨a2, c2, vs, rfl, hvl, hvr, hvc⟩ := hnews
        obtain ⟨a, c, olds, rfl, hol, hor, hoc⟩ := rowA_run hS hs' hold (Nat.le_refl _)
        have hlc : len ≤ c := by
          obtain ⟨a', c', he, hlc, _⟩ := VR_slice_form hs'
          cases he; exact hlc
        -- a new block
        have fresh : ∀ (H1 : Heap), Sim w0 σ H1 w → H1.n = H.n → c < len + n → (len + n) * bytes ≤ 140737488355328 → len + n ≤ 140737488355328 → K (.slice (some H.n) 0 (len + n) sz none) (H1.alloc (old ++ new)) →
            Eff P w0 σ K ((Builtin.append_ #[t, u] ty #[.slice a len c, .slice a2 n c2]).run P w) := by
          intro H1 hS1 hn1 hg hb hle hk
          rw [run_append_new ht' hu' hi hiz (by rw [his]; exact hol) (by rw [his]; exact hoc) (by rw [his]; exact hvl) (by rw [his]; exact hvc) hg hle (by rw [hib]; exact hb)]
          have hz1 : z.cells.size = z.cells.toList.length := by simp
          have hcap := grownCap_le w (len + n) c e
          have hzl : ∃ q, (Builtin.zeroCells z.cells (grownCap w (len + n) c e - (len + n))).size = q := ⟨_, rfl⟩
          obtain ⟨q, hq⟩ := hzl
          have hinf : z.cells.size = sz ∨ True := .inr trivial
          have := (hS1.drew).newSlice (P := P) (K := K) (olds.toArray ++ vs.toArray ++ Builtin.zeroCells z.cells (grownCap w (len + n) c e - (len + n))) e (old ++ new) (by simp; omega) (by
            have hl : (old ++ new).length = olds.length + vs.length := by simp; omega
            rw [hl]
            have : ((olds.toArray ++ vs.toArray ++ Builtin.zeroCells z.cells (grownCap w (len + n) c e - (len + n))).toList.take (olds.length + vs.length)) = olds ++ vs := by
              simp only [Array.toList_append]
              rw [← List.length_append, List.take_left]
            rw [this]
            exact hor.append hvr) (n := len + n) (sz := sz) (c := grownCap w (len + n) c e) (cap := none) hcap (by
            have hzs : z.cells.size = sz := by have := (absV_cells (σ := σ) z).length; simp at this; omega
            have e1 : (Builtin.zeroCells z.cells (grownCap w (len + n) c e - (len + n))).size = (grownCap w (len + n) c e - (len + n)) * sz := by simp [Builtin.zeroCells, hzs]
            simp only [Array.size_append, List.size_toArray, e1, hol, hvl, ← Nat.add_mul]
            exact Nat.le_of_eq (by congr 1; omega)) (fun _ h => by cases h) (by rw [hn1]; exact hk)
          exact this
        cases cap with
        | some c0 =>
          have hcc : c = c0 := by
            obtain ⟨a', c', he, _, hcc⟩ := VR_slice_form hs'
            cases he; exact hcc c0 rfl
          subst hcc
          simp only at h
          split at h
          · rename_i hroom
            cases b with
            | none => exact h.elim
            | some b =>
              simp only at h
              split at h
              · rename_i cs hb
                obtain ⟨hle, hk⟩ := h
                simp only [VR] at hs'
                obtain ⟨g, k, e', o, c', hσ, hv, h1, h2, h3⟩ := hs'
                cases hv
                have hc0 : 0 < c := by omega
                obtain ⟨rfl, he'⟩ := h2 hc0
                have hmul : (len + n) * sz = len * sz + n * sz := Nat.add_mul ..
                obtain ⟨w', q1, q2⟩ := hS.write (P := P) (as := new) (off := off + len * sz) hb hσ hvr hone (by omega)
                have hst : (storeCells ((⟨g, k + off, none⟩ : Addr).add (len * i.size)) vs).run P w = .ok () w' := by
                  rw [Addr.add_lit, his, Nat.add_assoc]; exact q1
                refine ⟨_, w', σ, _, _, run_append_room ht' hu' hi (by rw [his]; exact hvl) (by rw [his]; exact hvc) hroom hst, Sig.le_refl _, q2, ?_, hk⟩
                simp only [VR]
                exact ⟨g, k, e', k + off, c, hσ, rfl, hroom, fun _ => ⟨rfl, he'⟩, fun c' h => by cases h; rfl⟩
              · exact h.elim
          · rename_i hroom
            obtain ⟨h1, h2, hk⟩ := h
            exact fresh H hS rfl (by omega) h1 h2 hk
        | none =>
          cases b with
          | none => exact h.elim
          | some b =>
            simp only at h
            split at h
            · rename_i cs hb
              obtain ⟨h1, h2, hk⟩ := h
              by_cases hroom : len + n ≤ c
              · -- in place: the new row takes the old one's place
                simp only [VR] at hs'
                obtain ⟨g, k, e', o, c', hσ, hv, h3, h4, h5⟩ := hs'
                cases hv
                have hc0 : 0 < c := by omega
                obtain ⟨rfl, he'⟩ := h4 hc0
                have hmul : (len + n) * sz = len * sz + n * sz := Nat.add_mul ..
                have hmul2 : (len + n) * sz ≤ c * sz := Nat.mul_le_mul_right _ hroom
                obtain ⟨p, hp, hrow⟩ := hS.obj b _ hb
                rw [hσ] at hp; cases hp
                obtain ⟨C, ty', f, r1, r2, r3, r4, r5⟩ := RowAt.row hrow
                obtain ⟨r6, r7⟩ := r5 rfl
                simp only at r1 r2 r3 r4 r6 r7
                obtain ⟨w', C', q1, q2, q3, q4, q5, q6, q7, q8, q9⟩ := storeCells_run (P := P) (g := g) (o := k + off) (t := ty') (f := f) vs (len * sz) w C r1 (by omega) (fun j hj hj' => r7 j (by omega) (by omega)) (hvr.one hone)
                have hst : (storeCells ((⟨g, k + off, none⟩ : Addr).add (len * i.size)) vs).run P w = .ok () w' := by
                  rw [Addr.add_lit, his]
                  have key : ∀ (l : List Value) (m j : Nat) (W : World), (storeCells ⟨g, k + off + m, none⟩ l j).run P W = (storeCells ⟨g, k + off, none⟩ l (m + j)).run P W := by
                    intro l
                    induction l with
                    | nil => intro m j W; rfl
                    | cons v l ih =>
                      intro m j W
                      simp only [storeCells, Sem.run_bind, Addr.add_lit]
                      rw [show k + off + m + j = k + off + (m + j) by omega]
                      congr 1
                      funext _ W'
                      rw [ih m (j + 1) W']
                      rfl
                  rw [key vs (len * sz) 0 w]
                  simpa using q1
                refine ⟨_, w', σ.upd H.n (g, k + off, e'), _, _, run_append_room ht' hu' hi (by rw [his]; exact hvl) (by rw [his]; exact hvc) hroom hst, Sig.le_upd hS _, ?_, ?_, hk⟩
                · have hle := Sig.le_upd hS (g, k + off, e')
                  have hbn : b < H.n := hS.lt hb
                  refine ⟨⟨q7.trans hS.below.os, q8.trans hS.below.tape, q9.trans hS.below.output, by rw [q6]; exact hS.below.size, fun i hi => (q5 i (by omega)).trans (hS.below.block i hi)⟩, fun d x hd => ?_, fun d o hd => ?_, fun d d' o o' p p' hne hd hd' hw hp hp' => ?_⟩
                  · simp only [Sig.upd] at hd
                    simp only [Heap.alloc, Heap.kill]
                    split at hd
                    · omega
                    · have := hS.dom d x hd; omega
                  · replace hd : (if d = H.n then some (AObj.cells (old ++ new) true) else if d = b then none else H.get d) = some o := hd
                    by_cases ed : d = H.n
                    · rw [if_pos ed] at hd
                      cases hd
                      refine ⟨(g, k + off, e'), by simp [Sig.upd, ed], ?_⟩
                      refine ⟨C', ty', f, q2, ?_, by rw [q3]; exact r3, ?_, fun _ => ⟨r6, fun j hj hj' => r7 j (by simp at hj; omega) hj'⟩⟩
                      · simp only [List.length_append]; omega
                      · have hl : (old ++ new).length = olds.length + vs.length := by simp; omega
                        rw [hl, q4]
                        have hold2 : olds = (C.toList.drop (k + off)).take (len * sz) := by
                          apply List.ext_getElem?
                          intro j
                          by_cases hj : j < len * sz
                          · have : j < olds.length := by omega
                            obtain ⟨ad, h1, h2⟩ := hoc (by omega)
                            cases h1
                            have hcell := h2 j olds[j] (by simp [this])
                            rw [Addr.add_lit] at hcell
                            simp only [World.cell?, r1] at hcell
                            rw [List.getElem?_take, if_pos hj, List.getElem?_drop]
                            simp only [List.getElem?_eq_getElem this]
                            simpa using hcell.symm
                          · rw [List.getElem?_eq_none (by omega), List.getElem?_take, if_neg hj]
                        have : ((C.toList.take (k + off + len * sz) ++ vs ++ C.toList.drop (k + off + len * sz + vs.length)).drop (k + off)).take (olds.length + vs.length) = olds ++ vs := by
                          have hsp := splice_take C.toList (k + off) ((len + n) * sz) (len * sz) vs (by simp; omega) (by omega)
                          rw [show olds.length + vs.length = (len + n) * sz by omega, hsp, List.take_take, Nat.min_eq_left (by omega), ← hold2]
                          rw [List.drop_eq_nil_of_le (by simp; omega), List.append_nil]
                        simp only
                        rw [this]
                        exact VRs.mono hle _ _ (hor.append hvr)
                    · rw [if_neg ed] at hd
                      split at hd
                      · cases hd
                      · rename_i hdb
                        obtain ⟨p, hp, hob⟩ := hS.obj d o hd
                        have hsep := hS.sep b d _ o _ p (fun x => hdb x.symm) hb hd rfl hσ hp
                        exact ⟨p, hle _ _ hp, hob.mono hle (q5 _ (fun x => hsep x.symm))⟩
                  · replace hd : (if d = H.n then some (AObj.cells (old ++ new) true) else if d = b then none else H.get d) = some o := hd
                    replace hd' : (if d' = H.n then some (AObj.cells (old ++ new) true) else if d' = b then none else H.get d') = some o' := hd'
                    simp only [Sig.upd] at hp hp'
                    by_cases ed : d = H.n
                    · have ed' : d' ≠ H.n := fun x => hne (ed.trans x.symm)
                      rw [if_pos ed] at hp; rw [if_neg ed'] at hp' hd'
                      cases hp
                      split at hd'
                      · cases hd'
                      · rename_i hdb
                        exact hS.sep b d' _ o' (g, k, e') p' (fun x => hdb x.symm) hb hd' rfl hσ hp'
                    · rw [if_neg ed] at hd hp
                      split at hd
                      · cases hd
                      · rename_i hdb
                        by_cases ed' : d' = H.n
                        · rw [if_pos ed'] at hp'
                          cases hp'
                          exact fun x => hS.sep b d _ o (g, k, e') p (fun x => hdb x.symm) hb hd rfl hσ hp x.symm
                        · rw [if_neg ed'] at hd' hp'
                          split at hd'
                          · cases hd'
                          · exact hS.sep d d' o o' p p' hne hd hd' hw hp hp'
                · simp only [VR]
                  exact ⟨g, k + off, e', k + off, c, by simp [Sig.upd], rfl, hroom, fun _ => ⟨by simp, by omega⟩, fun c' h => by cases h⟩
              · exact fresh (H.kill b) (hS.kill b) rfl (by omega) h1 h2 hk
            · exact h.elim
      · exact h.elim
  · exact h.elim
end
end Go.Abs
