/- append, make, literals, copy, clear. -/
import Derived.Test.YthkmbfifiojmhaaAbsH
import Derived.Laws.IdiomStrings
set_option linter.unusedSimpArgs false
set_option linter.unusedVariables false
namespace Go.Abs
open Go.RowKit
section
variable {P : Program} {w0 : World} {σ : Sig} {H : Heap} {w : World} {K : AV → Heap → Prop}

theorem run_append_room {t u ty e e2 : TypeId} {i : TypeInfo} (ht : P.underlying t = some (.slice e)) (hu : P.underlying u = some (.slice e2)) (hi : P.info? e = some i)
    {base : Addr} {sLen sCap : Nat} {a : Option Addr} {n c : Nat} {news : List Value} (hl : news.length = n * i.size) (hn : 0 < n * i.size → ∃ ad, a = some ad ∧ ∀ (j : Nat) v, news[j]? = some v → w.cell? (ad.add j) = some v)
    (hroom : sLen + n ≤ sCap) {w' : World} (hst : (storeCells (base.add (sLen * i.size)) news).run P w = .ok () w') :
    (Builtin.append_ #[t, u] ty #[.slice (some base) sLen sCap, .slice a n c]).run P w = .ok (.slice (some base) (sLen + n) sCap) w' := by
  have hf : (Builtin.firstCells i.size n (.slice a n c)).run P w = .ok news.toArray w := by
    cases a with
    | none =>
      have : news = [] := by
        rcases Nat.eq_zero_or_pos (n * i.size) with h | h
        · exact List.eq_nil_of_length_eq_zero (by omega)
        · obtain ⟨ad, h1, _⟩ := hn h; cases h1
      subst this
      simp [Builtin.firstCells]
    | some ad =>
      refine run_firstCells_some w i.size n ad n c news hl fun j v hv => ?_
      rcases Nat.eq_zero_or_pos (n * i.size) with h | h
      · have : news = [] := List.eq_nil_of_length_eq_zero (by omega)
        subst this; simp at hv
      · obtain ⟨ad', h1, h2⟩ := hn h
        cases h1
        exact h2 j v hv
  simp [Builtin.append_, run_underlying ht, run_underlying hu, sizeOf, typeInfo, hi, Builtin.lenOf, hroom, hf, hst]

theorem run_append_new {t u ty e e2 : TypeId} {i : TypeInfo} {z : Value} (ht : P.underlying t = some (.slice e)) (hu : P.underlying u = some (.slice e2)) (hi : P.info? e = some i) (hz : i.zero = some z)
    {b : Option Addr} {sLen sCap : Nat} {olds : List Value} (hlo : olds.length = sLen * i.size) (holds : 0 < sLen * i.size → ∃ ad, b = some ad ∧ ∀ (j : Nat) v, olds[j]? = some v → w.cell? (ad.add j) = some v)
    {a : Option Addr} {n c : Nat} {news : List Value} (hl : news.length = n * i.size) (hn : 0 < n * i.size → ∃ ad, a = some ad ∧ ∀ (j : Nat) v, news[j]? = some v → w.cell? (ad.add j) = some v)
    (hg : sCap < sLen + n) (hle : sLen + n ≤ 140737488355328) (hb : (sLen + n) * i.bytes ≤ 140737488355328) :
    (Builtin.append_ #[t, u] ty #[.slice b sLen sCap, .slice a n c]).run P w =
      .ok (.slice (some ⟨w.heap.size, 0, none⟩) (sLen + n) (grownCap w (sLen + n) sCap e))
        (w.drew.alloc (.cells (olds.toArray ++ news.toArray ++ Builtin.zeroCells z.cells (grownCap w (sLen + n) sCap e - (sLen + n))) e)) := by
  have hno : ¬ (sLen + n ≤ sCap) := by omega
  have h63' : ¬ (9223372036854775807 < ((sLen : Int) + (n : Int))) := by omega
  have h48 := growslice_fits (bytes := i.bytes) hg hb
  have h48' : ¬ (281474976710656 < Builtin.nextslicecap (sLen + n) sCap * i.bytes) := by omega
  have first : ∀ (W : World) (q : Option Addr) (m cc : Nat) (xs : List Value), xs.length = m * i.size → (0 < m * i.size → ∃ ad, q = some ad ∧ ∀ (j : Nat) v, xs[j]? = some v → W.cell? (ad.add j) = some v) →
      (Builtin.firstCells i.size m (.slice q m cc)).run P W = .ok xs.toArray W := by
    intro W q m cc xs hx hxs
    cases q with
    | none =>
      have : xs = [] := by
        rcases Nat.eq_zero_or_pos (m * i.size) with h | h
        · exact List.eq_nil_of_length_eq_zero (by omega)
        · obtain ⟨ad, h1, _⟩ := hxs h; cases h1
      subst this
      simp [Builtin.firstCells]
    | some ad =>
      refine run_firstCells_some W i.size m ad m cc xs hx fun j v hv => ?_
      rcases Nat.eq_zero_or_pos (m * i.size) with h | h
      · have : xs = [] := List.eq_nil_of_length_eq_zero (by omega)
        subst this; simp at hv
      · obtain ⟨ad', h1, h2⟩ := hxs h
        cases h1
        exact h2 j v hv
  have hf := first w.drew a n c news hl (fun h => by obtain ⟨ad, h1, h2⟩ := hn h; exact ⟨ad, h1, fun j v hv => by simpa using h2 j v hv⟩)
  have hfo := first w.drew b sLen sCap olds hlo (fun h => by obtain ⟨ad, h1, h2⟩ := holds h; exact ⟨ad, h1, fun j v hv => by simpa using h2 j v hv⟩)
  simp [Builtin.append_, run_underlying ht, run_underlying hu, sizeOf, typeInfo, zeroValue, hi, hz, Builtin.lenOf, hno, h63', h48', Question.forced, hf, hfo, newRow, grownCap]
  congr 2
  apply Array.ext'
  simp [List.append_assoc]

theorem grownCap_le (w : World) (need old : Nat) (e : TypeId) : need ≤ grownCap w need old e := by
  simp only [grownCap, Question.cut]; omega

theorem rowA_len {b : Option Nat} {off n : Nat} {cs : List AV} (h : rowA H b off n = some cs) : cs.length = n := by
  unfold rowA at h
  split at h
  · cases h; simp_all
  · split at h
    · split at h
      · split at h
        · cases h; simp; omega
        · cases h
      · cases h
    · cases h

theorem appendR_run (hS : Sim w0 σ H w) {t u ty : TypeId} {s x : AV} (h : appendR P t u s x H K) {s' x' : Value} (hs : VR σ s s') (hx : VR σ x x') :
    Eff P w0 σ K ((Builtin.append_ #[t, u] ty #[s', x']).run P w) := by
  unfold appendR at h
  split at h
  · rename_i e sz e2 sz2' b off len sz1 cap b2 off2 n sz2 cap2 ht hu
    obtain ⟨hsz, h⟩ := h
    obtain ⟨ht', i, hi, his⟩ := tk_slice ht
    obtain ⟨hu', _⟩ := tk_slice hu
    split at h
    · rename_i h0
      subst h0
      obtain ⟨a, c, rfl, hlc, hcc⟩ := VR_slice_form hs
      obtain ⟨a2, c2, rfl, _, _⟩ := VR_slice_form hx
      refine ⟨.slice a len c, w, σ, _, H, ?_, Sig.le_refl _, hS, hs, h⟩
      cases a <;> cases a2 <;> simp [Builtin.append_, run_underlying ht', run_underlying hu', sizeOf, typeInfo, hi, Builtin.lenOf, hlc, Builtin.firstCells, loadCells, loadCellsFrom, storeCells]
    · rename_i hn0
      split at h
      · rename_i bytes z old new hbz hold hnew
        obtain ⟨hzz, hone, h⟩ := h
        obtain ⟨i', hi', hib, hiz⟩ := bz_parts hbz
        rw [hi] at hi'; cases hi'
        have hx2 : VR σ (.slice b2 off2 n sz2 cap2) x' := hx
        have holdl := rowA_len hold
        have hnewl := rowA_len hnew
        have hs' : VR σ (.slice b off len sz cap) s' := by
          rcases hsz with h | h
          · subst h; exact hs
          · subst h; simp only [VR] at hs ⊢; exact hs
        have hx3 : VR σ (.slice b2 off2 n sz cap2) x' ∨ True := .inr trivial
        -- the new cells
        have hnews : ∃ a2 c2 vs, x' = .slice a2 n c2 ∧ vs.length = n * sz ∧ VRs σ new vs ∧ (0 < n * sz → ∃ ad, a2 = some ad ∧ ∀ (j : Nat) v, vs[j]? = some v → w.cell? (ad.add j) = some v) := by
          rcases Nat.eq_zero_or_pos (n * sz) with h0 | h0
          · obtain ⟨a2, c2, rfl, _, _⟩ := VR_slice_form hx
            have : new = [] := List.eq_nil_of_length_eq_zero (by omega)
            subst this
            exact ⟨a2, c2, [], rfl, by simp [h0], by simp only [VRs], fun h => by omega⟩
          · unfold rowA at hnew
            rw [if_neg (by omega)] at hnew
            split at hnew
            · rename_i b2
              split at hnew
              · rename_i cs' wr hb
                split at hnew
                · rename_i hle
                  cases hnew
                  simp only [VR] at hx
                  obtain ⟨g, k, e', o, c, hσ, rfl, hlc, ho, _⟩ := hx
                  obtain ⟨rfl, _⟩ := ho (by omega)
                  obtain ⟨p, hp, hrow⟩ := hS.obj b2 _ hb
                  rw [hσ] at hp; cases hp
                  obtain ⟨vs, hvl, hvr, _, hcell⟩ := RowAt.load (P := (default : Program)) hrow hle
                  exact ⟨_, c, vs, rfl, hvl, hvr, fun _ => ⟨_, rfl, hcell⟩⟩
                · cases hnew
              · cases hnew
            · cases hnew
        obtain ⟨a2, c2, vs, rfl, hvl, hvr, hvc⟩ := hnews
        obtain ⟨a, c, olds, rfl, hol, hor, hoc⟩ := rowA_run hS hs' hold (Nat.le_refl _)
        have hlc : len ≤ c := by
          obtain ⟨a', c', he, hlc, _⟩ := VR_slice_form hs'
          cases he; exact hlc
        -- a new block
        have fresh : ∀ (H1 : Heap), Sim w0 σ H1 w → H1.n = H.n → c < len + n → (len + n) * bytes ≤ 140737488355328 → len + n ≤ 140737488355328 → K (.slice (some H.n) 0 (len + n) sz none) (H1.alloc (old ++ new)) →
            Eff P w0 σ K ((Builtin.append_ #[t, u] ty #[.slice a len c, .slice a2 n c2]).run P w) := by
          intro H1 hS1 hn1 hg hb hle hk
          rw [run_append_new ht' hu' hi hiz (by rw [his]; exact hol) (by rw [his]; exact hoc) (by rw [his]; exact hvl) (by rw [his]; exact hvc) hg hle (by rw [hib]; exact hb)]
          have hz1 : z.cells.size = z.cells.toList.length := by simp
          have hcap := grownCap_le w (len + n) c e
          have hzl : ∃ q, (Builtin.zeroCells z.cells (grownCap w (len + n) c e - (len + n))).size = q := ⟨_, rfl⟩
          obtain ⟨q, hq⟩ := hzl
          have hinf : z.cells.size = sz ∨ True := .inr trivial
          have := (hS1.drew).newSlice (P := P) (K := K) (olds.toArray ++ vs.toArray ++ Builtin.zeroCells z.cells (grownCap w (len + n) c e - (len + n))) e (old ++ new) (by simp; omega) (by
            have hl : (old ++ new).length = olds.length + vs.length := by simp; omega
            rw [hl]
            have : ((olds.toArray ++ vs.toArray ++ Builtin.zeroCells z.cells (grownCap w (len + n) c e - (len + n))).toList.take (olds.length + vs.length)) = olds ++ vs := by
              simp only [Array.toList_append]
              rw [← List.length_append, List.take_left]
            rw [this]
            exact hor.append hvr) (n := len + n) (sz := sz) (c := grownCap w (len + n) c e) (cap := none) hcap (by
            have hzs : z.cells.size = sz := by have := (absV_cells (σ := σ) z).length; simp at this; omega
            have e1 : (Builtin.zeroCells z.cells (grownCap w (len + n) c e - (len + n))).size = (grownCap w (len + n) c e - (len + n)) * sz := by simp [Builtin.zeroCells, hzs]
            simp only [Array.size_append, List.size_toArray, e1, hol, hvl, ← Nat.add_mul]
            exact Nat.le_of_eq (by congr 1; omega)) (fun _ h => by cases h) (by rw [hn1]; exact hk)
          exact this
        cases cap with
        | some c0 =>
          have hcc : c = c0 := by
            obtain ⟨a', c', he, _, hcc⟩ := VR_slice_form hs'
            cases he; exact hcc c0 rfl
          subst hcc
          simp only at h
          split at h
          · rename_i hroom
            cases b with
            | none => exact h.elim
            | some b =>
              simp only at h
              split at h
              · rename_i cs hb
                obtain ⟨hle, hk⟩ := h
                simp only [VR] at hs'
                obtain ⟨g, k, e', o, c', hσ, hv, h1, h2, h3⟩ := hs'
                cases hv
                have hc0 : 0 < c := by omega
                obtain ⟨rfl, he'⟩ := h2 hc0
                have hmul : (len + n) * sz = len * sz + n * sz := Nat.add_mul ..
                obtain ⟨w', q1, q2⟩ := hS.write (P := P) (as := new) (off := off + len * sz) hb hσ hvr hone (by omega)
                have hst : (storeCells ((⟨g, k + off, none⟩ : Addr).add (len * i.size)) vs).run P w = .ok () w' := by
                  rw [Addr.add_lit, his, Nat.add_assoc]; exact q1
                refine ⟨_, w', σ, _, _, run_append_room ht' hu' hi (by rw [his]; exact hvl) (by rw [his]; exact hvc) hroom hst, Sig.le_refl _, q2, ?_, hk⟩
                simp only [VR]
                exact ⟨g, k, e', k + off, c, hσ, rfl, hroom, fun _ => ⟨rfl, he'⟩, fun c' h => by cases h; rfl⟩
              · exact h.elim
          · rename_i hroom
            obtain ⟨h1, h2, hk⟩ := h
            exact fresh H hS rfl (by omega) h1 h2 hk
        | none =>
          cases b with
          | none => exact h.elim
          | some b =>
            simp only at h
            split at h
            · rename_i cs hb
              obtain ⟨h1, h2, hk⟩ := h
              by_cases hroom : len + n ≤ c
              · -- in place: the new row takes the old one's place
                simp only [VR] at hs'
                obtain ⟨g, k, e', o, c', hσ, hv, h3, h4, h5⟩ := hs'
                cases hv
                have hc0 : 0 < c := by omega
                obtain ⟨rfl, he'⟩ := h4 hc0
                have hmul : (len + n) * sz = len * sz + n * sz := Nat.add_mul ..
                have hmul2 : (len + n) * sz ≤ c * sz := Nat.mul_le_mul_right _ hroom
                obtain ⟨p, hp, hrow⟩ := hS.obj b _ hb
                rw [hσ] at hp; cases hp
                obtain ⟨C, ty', f, r1, r2, r3, r4, r5⟩ := RowAt.row hrow
                obtain ⟨r6, r7⟩ := r5 rfl
                simp only at r1 r2 r3 r4 r6 r7
                obtain ⟨w', C', q1, q2, q3, q4, q5, q6, q7, q8, q9⟩ := storeCells_run (P := P) (g := g) (o := k + off) (t := ty') (f := f) vs (len * sz) w C r1 (by omega) (fun j hj hj' => r7 j (by omega) (by omega)) (hvr.one hone)
                have hst : (storeCells ((⟨g, k + off, none⟩ : Addr).add (len * i.size)) vs).run P w = .ok () w' := by
                  rw [Addr.add_lit, his]
                  have key : ∀ (l : List Value) (m j : Nat) (W : World), (storeCells ⟨g, k + off + m, none⟩ l j).run P W = (storeCells ⟨g, k + off, none⟩ l (m + j)).run P W := by
                    intro l
                    induction l with
                    | nil => intro m j W; rfl
                    | cons v l ih =>
                      intro m j W
                      simp only [storeCells, Sem.run_bind, Addr.add_lit]
                      rw [show k + off + m + j = k + off + (m + j) by omega]
                      congr 1
                      funext _ W'
                      rw [ih m (j + 1) W']
                      rfl
                  rw [key vs (len * sz) 0 w]
                  simpa using q1
                refine ⟨_, w', σ.upd H.n (g, k + off, e'), _, _, run_append_room ht' hu' hi (by rw [his]; exact hvl) (by rw [his]; exact hvc) hroom hst, Sig.le_upd hS _, ?_, ?_, hk⟩
                · have hle := Sig.le_upd hS (g, k + off, e')
                  have hbn : b < H.n := hS.lt hb
                  refine ⟨⟨q7.trans hS.below.os, q8.trans hS.below.tape, q9.trans hS.below.output, by rw [q6]; exact hS.below.size, fun i hi => (q5 i (by omega)).trans (hS.below.block i hi)⟩, fun d x hd => ?_, fun d o hd => ?_, fun d d' o o' p p' hne hd hd' hw hp hp' => ?_, fun g' i ci hi => ?_, fun d o p hd hw hp i ci hi => ?_⟩
                  · simp only [Sig.upd] at hd
                    simp only [Heap.alloc, Heap.kill]
                    split at hd
                    · omega
                    · have := hS.dom d x hd; omega
                  · replace hd : (if d = H.n then some (AObj.cells (old ++ new) true) else if d = b then none else H.get d) = some o := hd
                    by_cases ed : d = H.n
                    · rw [if_pos ed] at hd
                      cases hd
                      refine ⟨(g, k + off, e'), by simp [Sig.upd, ed], ?_⟩
                      refine ⟨C', ty', f, q2, ?_, by rw [q3]; exact r3, ?_, fun _ => ⟨r6, fun j hj hj' => r7 j (by simp at hj; omega) hj'⟩⟩
                      · simp only [List.length_append]; omega
                      · have hl : (old ++ new).length = olds.length + vs.length := by simp; omega
                        rw [hl, q4]
                        have hold2 : olds = (C.toList.drop (k + off)).take (len * sz) := by
                          apply List.ext_getElem?
                          intro j
                          by_cases hj : j < len * sz
                          · have : j < olds.length := by omega
                            obtain ⟨ad, h1, h2⟩ := hoc (by omega)
                            cases h1
                            have hcell := h2 j olds[j] (by simp [this])
                            rw [Addr.add_lit] at hcell
                            simp only [World.cell?, r1] at hcell
                            rw [List.getElem?_take, if_pos hj, List.getElem?_drop]
                            simp only [List.getElem?_eq_getElem this]
                            simpa using hcell.symm
                          · rw [List.getElem?_eq_none (by omega), List.getElem?_take, if_neg hj]
                        have : ((C.toList.take (k + off + len * sz) ++ vs ++ C.toList.drop (k + off + len * sz + vs.length)).drop (k + off)).take (olds.length + vs.length) = olds ++ vs := by
                          have hsp := splice_take C.toList (k + off) ((len + n) * sz) (len * sz) vs (by simp; omega) (by omega)
                          rw [show olds.length + vs.length = (len + n) * sz by omega, hsp, List.take_take, Nat.min_eq_left (by omega), ← hold2]
                          rw [List.drop_eq_nil_of_le (by simp; omega), List.append_nil]
                        simp only
                        rw [this]
                        exact VRs.mono hle _ _ (hor.append hvr)
                    · rw [if_neg ed] at hd
                      split at hd
                      · cases hd
                      · rename_i hdb
                        obtain ⟨p, hp, hob⟩ := hS.obj d o hd
                        have hsep := hS.sep b d _ o _ p (fun x => hdb x.symm) hb hd rfl hσ hp
                        exact ⟨p, hle.m _ _ hp, hob.mono hle (q5 _ (fun x => hsep x.symm))⟩
                  · replace hd : (if d = H.n then some (AObj.cells (old ++ new) true) else if d = b then none else H.get d) = some o := hd
                    replace hd' : (if d' = H.n then some (AObj.cells (old ++ new) true) else if d' = b then none else H.get d') = some o' := hd'
                    simp only [Sig.upd] at hp hp'
                    by_cases ed : d = H.n
                    · have ed' : d' ≠ H.n := fun x => hne (ed.trans x.symm)
                      rw [if_pos ed] at hp; rw [if_neg ed'] at hp' hd'
                      cases hp
                      split at hd'
                      · cases hd'
                      · rename_i hdb
                        exact hS.sep b d' _ o' (g, k, e') p' (fun x => hdb x.symm) hb hd' rfl hσ hp'
                    · rw [if_neg ed] at hd hp
                      split at hd
                      · cases hd
                      · rename_i hdb
                        by_cases ed' : d' = H.n
                        · rw [if_pos ed'] at hp'
                          cases hp'
                          exact fun x => hS.sep b d _ o (g, k, e') p (fun x => hdb x.symm) hb hd rfl hσ hp x.symm
                        · rw [if_neg ed'] at hd' hp'
                          split at hd'
                          · cases hd'
                          · exact hS.sep d d' o o' p p' hne hd hd' hw hp hp'
                  · by_cases eg : g' = g
                    · subst eg
                      have := (hS.own b _ _ hb rfl hσ i ci hi).1
                      cases this
                    · exact (hS.fz g' i ci hi).mono (q5 _ eg)
                  · replace hd : (if d = H.n then some (AObj.cells (old ++ new) true) else if d = b then none else H.get d) = some o := hd
                    simp only [Sig.upd] at hp
                    by_cases ed : d = H.n
                    · rw [if_pos ed] at hp
                      cases hp
                      have := (hS.own b _ _ hb rfl hσ i ci hi).1
                      cases this
                    · rw [if_neg ed] at hd hp
                      split at hd
                      · cases hd
                      · exact hS.own d o p hd hw hp i ci hi
                · simp only [VR]
                  exact ⟨g, k + off, e', k + off, c, by simp [Sig.upd], rfl, hroom, fun _ => ⟨by simp, by omega⟩, fun c' h => by cases h⟩
              · exact fresh (H.kill b) (hS.kill b) rfl (by omega) h1 h2 hk
            · exact h.elim
      · exact h.elim
  · exact h.elim
/-- A value that may be written behind. -/
theorem endOf_some {s : AV} {tk : Option Nat} {len sz : Nat} {cs : List AV} (h : endOf s = some (tk, len, cs, sz)) : (∃ b, tk = some b ∧ s = .lst (some b) len sz cs) ∨ (tk = none ∧ len = 0 ∧ cs = [] ∧ ∃ off l cap, s = .slice none off l sz cap) := by
  unfold endOf at h
  split at h <;> cases h
  · exact .inl ⟨_, rfl, rfl⟩
  · exact .inr ⟨rfl, rfl, rfl, _, _, _, rfl⟩
theorem lenOf_some {x : AV} {n sz : Nat} (h : lenOf x = some (n, sz)) : (∃ b off cap, x = .slice b off n sz cap) ∨ ∃ t cs', x = .lst t n sz cs' := by
  unfold lenOf at h
  split at h <;> cases h
  · exact .inl ⟨_, _, _, rfl⟩
  · exact .inr ⟨_, _, rfl⟩
theorem cellsA_len {x : AV} {n : Nat} {cs : List AV} (h : cellsA H x n = some cs) : cs.length = n := by
  unfold cellsA at h
  split at h
  · exact rowA_len h
  · split at h
    · cases h; simp; omega
    · cases h
  · cases h
theorem lenOf_run {x : AV} {n sz : Nat} (h : lenOf x = some (n, sz)) {v : Value} (hv : VR σ x v) : ∃ a c, v = .slice a n c ∧ n ≤ c := by
  rcases lenOf_some h with ⟨b, off, cap, rfl⟩ | ⟨t, cs', rfl⟩
  · obtain ⟨a, c, rfl, h1, _⟩ := VR_slice_form hv
    exact ⟨a, c, rfl, h1⟩
  · simp only [VR] at hv
    obtain ⟨a, c, _, rfl, h1, _⟩ := hv
    exact ⟨a, c, rfl, h1⟩
theorem storeCells_at {g o m : Nat} (w : World) (l : List Value) : (storeCells ⟨g, o + m, none⟩ l).run P w = (storeCells ⟨g, o, none⟩ l m).run P w := by
  have key : ∀ (l : List Value) (m j : Nat) (W : World), (storeCells ⟨g, o + m, none⟩ l j).run P W = (storeCells ⟨g, o, none⟩ l (m + j)).run P W := by
    intro l
    induction l with
    | nil => intro m j W; rfl
    | cons v l ih =>
      intro m j W
      simp only [storeCells, Sem.run_bind, Addr.add_lit]
      rw [show o + m + j = o + (m + j) by omega]
      congr 1
      funext _ W'
      rw [ih m (j + 1) W']
      rfl
  rw [key l m 0 w]
  simp

theorem appendL_run (hS : Sim w0 σ H w) {t u ty : TypeId} {s x : AV} (h : appendL P t u s x H K) {s' x' : Value} (hs : VR σ s s') (hx : VR σ x x') :
    Eff P w0 σ K ((Builtin.append_ #[t, u] ty #[s', x']).run P w) := by
  unfold appendL at h
  split at h
  · rename_i e sz e2 sz2' tk len cs sz1 n sz2 ht hu he hl
    obtain ⟨ht', i, hi, his⟩ := tk_slice ht
    obtain ⟨hu', _⟩ := tk_slice hu
    have hsform : ∃ a c, s' = .slice a len c ∧ len ≤ c := by
      rcases endOf_some he with ⟨b, rfl, rfl⟩ | ⟨rfl, rfl, rfl, off, l, cap, rfl⟩
      · simp only [VR] at hs
        obtain ⟨a, c, _, rfl, h1, _⟩ := hs
        exact ⟨a, c, rfl, h1⟩
      · simp only [VR] at hs
        obtain ⟨_, _, rfl⟩ := hs
        exact ⟨none, 0, rfl, Nat.le_refl _⟩
    split at h
    · rename_i h0
      subst h0
      obtain ⟨a, c, rfl, hlc⟩ := hsform
      obtain ⟨a2, c2, rfl, _⟩ := lenOf_run hl hx
      refine ⟨.slice a len c, w, σ, _, H, ?_, Sig.le_refl _, hS, hs, h⟩
      cases a <;> cases a2 <;> simp [Builtin.append_, run_underlying ht', run_underlying hu', sizeOf, typeInfo, hi, Builtin.lenOf, hlc, Builtin.firstCells, loadCells, loadCellsFrom, storeCells]
    · rename_i hn0
      split at h
      · rename_i bytes z new hbz hnew
        obtain ⟨hzz, hone, hb1, hb2, hsz0, rfl, h⟩ := h
        obtain ⟨i', hi', hib, hiz⟩ := bz_parts hbz
        rw [hi] at hi'; cases hi'
        obtain ⟨a2, c2, vs, rfl, _, hvl, hvr, hvc⟩ := cellsA_run (sz := sz2) hS hx hnew (lenOf_some hl) (Nat.le_refl _)
        obtain ⟨a, c, rfl, hlc⟩ := hsform
        have hnewl := cellsA_len hnew
        have hzs : z.cells.size = sz2 := by have := (absV_cells (σ := σ) z).length; simp at this; omega
        -- the cells before
        have hold : ∃ olds, olds.length = len * sz2 ∧ VRs σ cs olds ∧ FrAt σ a olds ∧ cs.length = len * sz2 := by
          rcases endOf_some he with ⟨b, rfl, rfl⟩ | ⟨rfl, rfl, rfl, off, l, cap, rfl⟩
          · simp only at h
            obtain ⟨rfl, _, _⟩ := h
            simp only [VR] at hs
            obtain ⟨a', c', us, hv, h1, h2, h3, h4, _⟩ := hs
            cases hv
            exact ⟨us, by rw [← h3.length]; exact h2, h3, h4, h2⟩
          · exact ⟨[], by simp, by simp only [VRs], fun j u hj => by simp at hj, by simp⟩
        obtain ⟨olds, hol, hor, hof, hcl⟩ := hold
        have hoc : 0 < len * i.size → ∃ ad, a = some ad ∧ ∀ (j : Nat) v, olds[j]? = some v → w.cell? (ad.add j) = some v := by
          intro h0
          rw [his] at h0
          obtain ⟨g, o, ci, ha, _⟩ := hof 0 (olds[0]'(by omega)) (List.getElem?_eq_getElem (by omega))
          subst ha
          exact ⟨_, rfl, fun j v hj => hof.cell hS hj⟩
        by_cases hroom : len + n ≤ c
        · -- in place: there must be a right
          rcases endOf_some he with ⟨b, rfl, rfl⟩ | ⟨rfl, rfl, rfl, off, l, cap, rfl⟩
          · simp only at h
            obtain ⟨rfl, hb, hk⟩ := h
            simp only [VR] at hs
            obtain ⟨a', c', us, hv, h1, h2, h3, h4, h5⟩ := hs
            cases hv
            obtain ⟨g, o, ha, hσ⟩ := h5 b rfl
            subst ha
            have hmul : (len + n) * sz1 = len * sz1 + n * sz1 := Nat.add_mul ..
            have hmul2 : (len + n) * sz1 ≤ c * sz1 := Nat.mul_le_mul_right _ hroom
            obtain ⟨p, hp, hobj⟩ := hS.obj b _ hb
            rw [hσ] at hp; cases hp
            obtain ⟨C, ty', f, r1, r2, r3, r4⟩ := TailAt.tl hobj
            simp only at r1 r2 r3 r4
            obtain ⟨w', C', q1, q2, q3, q4, q5, q6, q7, q8, q9⟩ := storeCells_run (P := P) (g := g) (o := o) (t := ty') (f := f) vs (len * sz1) w C r1 (by omega) (fun j hj hj' => r4 j (by omega) (by omega)) (hvr.one hone)
            have hst : (storeCells ((⟨g, o, none⟩ : Addr).add (len * i.size)) vs).run P w = .ok () w' := by
              rw [Addr.add_lit, his, storeCells_at]
              exact q1
            obtain ⟨Q, hQ⟩ : ∃ Q : Nat → Nat → CI → Prop, Q = fun g' i ci => g' = g ∧ (o + len * sz1 ≤ i ∧ i < o + (len + n) * sz1) ∧ ∃ u, ci = .at u ∧ C'[i]? = some u := ⟨_, rfl⟩
            have hle0 := Sig.le_upd hS (g, o + (len + n) * sz1, o + c * sz1)
            have hle := Sig.le_trans hle0 (Sig.le_add (σ.upd H.n (g, o + (len + n) * sz1, o + c * sz1)) Q)
            have hbn : b < H.n := hS.lt hb
            have hgetC : ∀ j, j < o + len * sz1 → C'[j]? = C[j]? := by
              intro j hj
              have e1 : C'.toList[j]? = C.toList[j]? := by
                rw [q4, List.append_assoc, List.getElem?_append_left (by simp; omega), List.getElem?_take, if_pos hj]
              simpa using e1
            have hsim : Sim w0 (σ.upd H.n (g, o + (len + n) * sz1, o + c * sz1)) (H.kill b).allocT w' := by
              refine ⟨⟨q7.trans hS.below.os, q8.trans hS.below.tape, q9.trans hS.below.output, by rw [q6]; exact hS.below.size, fun i hi => (q5 i (by omega)).trans (hS.below.block i hi)⟩, fun d x hd => ?_, fun d o' hd => ?_, fun d d' o1 o' p p' hne hd hd' hw hp hp' => ?_, fun g' i ci hi => ?_, fun d o1 p hd hw hp i ci hi => ?_⟩
              · simp only [Sig.upd] at hd
                simp only [Heap.allocT, Heap.kill]
                split at hd
                · omega
                · have := hS.dom d x hd; omega
              · replace hd : (if d = H.n then some AObj.tail else if d = b then none else H.get d) = some o' := hd
                by_cases ed : d = H.n
                · rw [if_pos ed] at hd
                  cases hd
                  exact ⟨(g, o + (len + n) * sz1, o + c * sz1), by simp [Sig.upd, ed], ⟨C', ty', f, q2, by rw [q3]; exact r2, r3, fun j hj hj' => r4 j (by simp only at hj; omega) hj'⟩⟩
                · rw [if_neg ed] at hd
                  split at hd
                  · cases hd
                  · rename_i hdb
                    obtain ⟨p, hp, hob⟩ := hS.obj d o' hd
                    have hsep := hS.sep b d _ o' _ p (fun x => hdb x.symm) hb hd rfl hσ hp
                    exact ⟨p, hle0.m _ _ hp, hob.mono hle0 (q5 _ (fun x => hsep x.symm))⟩
              · replace hd : (if d = H.n then some AObj.tail else if d = b then none else H.get d) = some o1 := hd
                replace hd' : (if d' = H.n then some AObj.tail else if d' = b then none else H.get d') = some o' := hd'
                simp only [Sig.upd] at hp hp'
                by_cases ed : d = H.n
                · have ed' : d' ≠ H.n := fun x => hne (ed.trans x.symm)
                  rw [if_pos ed] at hp; rw [if_neg ed'] at hp' hd'
                  cases hp
                  split at hd'
                  · cases hd'
                  · rename_i hdb
                    exact hS.sep b d' _ o' (g, o + len * sz1, o + c * sz1) p' (fun x => hdb x.symm) hb hd' rfl hσ hp'
                · rw [if_neg ed] at hd hp
                  split at hd
                  · cases hd
                  · rename_i hdb
                    by_cases ed' : d' = H.n
                    · rw [if_pos ed'] at hp'
                      cases hp'
                      exact fun x => hS.sep b d _ o1 (g, o + len * sz1, o + c * sz1) p (fun x => hdb x.symm) hb hd rfl hσ hp x.symm
                    · rw [if_neg ed'] at hd' hp'
                      split at hd'
                      · cases hd'
                      · exact hS.sep d d' o1 o' p p' hne hd hd' hw hp hp'
              · by_cases eg : g' = g
                · subst eg
                  obtain ⟨_, hlt, u, rfl⟩ := hS.own b _ _ hb rfl hσ i ci hi
                  obtain ⟨D, _, _, d1, d3⟩ := hS.fz g' i _ hi
                  rw [r1] at d1
                  cases d1
                  exact ⟨C', _, _, q2, by rw [hgetC i hlt]; exact d3⟩
                · exact (hS.fz g' i ci hi).mono (q5 _ eg)
              · replace hd : (if d = H.n then some AObj.tail else if d = b then none else H.get d) = some o1 := hd
                simp only [Sig.upd] at hp
                by_cases ed : d = H.n
                · rw [if_pos ed] at hp hd
                  cases hp
                  cases hd
                  obtain ⟨_, hlt, hu⟩ := hS.own b _ _ hb rfl hσ i ci hi
                  exact ⟨rfl, by simp only at hlt ⊢; omega, hu⟩
                · rw [if_neg ed] at hd hp
                  split at hd
                  · cases hd
                  · exact hS.own d o1 p hd hw hp i ci hi
            refine ⟨_, w', (σ.upd H.n (g, o + (len + n) * sz1, o + c * sz1)).add Q, _, _, run_append_room ht' hu' hi (by rw [his]; exact hvl) (by rw [his]; exact hvc) hroom hst, hle, hsim.freeze Q (fun g' i ci hi => ?_) (fun d o1 p hd hw hp i ci hi => ?_), ?_, hk⟩
            · rw [hQ] at hi
              obtain ⟨rfl, e1, u, rfl, e2⟩ := hi
              exact ⟨C', _, _, q2, e2⟩
            · rw [hQ] at hi
              replace hd : (if d = H.n then some AObj.tail else if d = b then none else H.get d) = some o1 := hd
              simp only [Sig.upd] at hp
              by_cases ed : d = H.n
              · rw [if_pos ed] at hp hd
                cases hp
                cases hd
                obtain ⟨_, h2, u, h3, _⟩ := hi
                exact ⟨rfl, h2.2, u, h3⟩
              · exfalso
                rw [if_neg ed] at hd hp
                split at hd
                · cases hd
                · rename_i hdb
                  exact hS.sep b d _ o1 _ p (fun x => hdb x.symm) hb hd rfl hσ hp hi.1.symm
            · simp only [VR]
              have husl := h3.length
              refine ⟨_, c, us ++ vs, rfl, hroom, by simp; omega, VRs.append (VRs.mono hle _ _ h3) (VRs.mono hle _ _ hvr), fun j u hj => ?_, fun b' hb' => ?_⟩
              · rw [List.getElem?_append] at hj
                split at hj
                · obtain ⟨g1, o1, ci, e1, e2, e3⟩ := h4 j u hj
                  exact ⟨g1, o1, ci, e1, e2, .inl e3⟩
                · rename_i hge
                  have hjl : j - us.length < vs.length := (List.getElem?_eq_some_iff.1 hj).1
                  refine ⟨g, o, .at u, rfl, rfl, .inr ?_⟩
                  rw [hQ]
                  refine ⟨rfl, ⟨by omega, by omega⟩, u, rfl, ?_⟩
                  have e1 : C'.toList[o + j]? = some u := by
                    rw [q4, List.append_assoc, List.getElem?_append_right (by simp; omega), List.length_take, show min (o + len * sz1) C.toList.length = o + len * sz1 by simp; omega, List.getElem?_append_left (by omega)]
                    rw [show o + j - (o + len * sz1) = j - us.length by omega]
                    exact hj
                  simpa using e1
              · cases hb'
                exact ⟨g, o, rfl, by simp [Sig.add, Sig.upd]⟩
          · exfalso
            simp only [VR] at hs
            obtain ⟨_, _, hv⟩ := hs
            cases hv
            omega
        · -- a new block
          have hcap := grownCap_le w (len + n) c e
          have e1 : (Builtin.zeroCells z.cells (grownCap w (len + n) c e - (len + n))).size = (grownCap w (len + n) c e - (len + n)) * sz2 := by simp [Builtin.zeroCells, hzs]
          have hmul : (len + n) * sz2 = len * sz2 + n * sz2 := Nat.add_mul ..
          have hk : ∀ H1, Sim w0 σ H1 w → H1.n = H.n → K (.lst (some H1.n) (len + n) sz2 (cs ++ new)) H1.allocT → Eff P w0 σ K ((Builtin.append_ #[t, u] ty #[.slice a len c, .slice a2 n c2]).run P w) := by
            intro H1 hS1 hn1 hk
            rw [run_append_new ht' hu' hi hiz (by rw [his]; exact hol) hoc (by rw [his]; exact hvl) (by rw [his]; exact hvc) (by omega) hb2 (by rw [hib]; exact hb1)]
            refine (hS1.drew).newList (P := P) (K := K) (olds.toArray ++ vs.toArray ++ Builtin.zeroCells z.cells (grownCap w (len + n) c e - (len + n))) e (cs ++ new) (n := len + n) (sz := sz2) (c := grownCap w (len + n) c e) (by simp; omega) ?_ hcap ?_ (.inr hk)
            · have hl : (cs ++ new).length = olds.length + vs.length := by simp; omega
              rw [hl]
              have : ((olds.toArray ++ vs.toArray ++ Builtin.zeroCells z.cells (grownCap w (len + n) c e - (len + n))).toList.take (olds.length + vs.length)) = olds ++ vs := by
                simp only [Array.toList_append]
                rw [← List.length_append, List.take_left]
              rw [this]
              exact hor.append hvr
            · simp only [Array.size_append, List.size_toArray, e1, hol, hvl, ← Nat.add_mul]
              exact Nat.le_of_eq (by congr 1; omega)
          rcases endOf_some he with ⟨b, rfl, rfl⟩ | ⟨rfl, rfl, rfl, off, l, cap, rfl⟩
          · simp only at h
            obtain ⟨rfl, hb, h⟩ := h
            exact hk _ (hS.kill b) rfl h
          · simp only at h
            refine hk _ hS rfl ?_
            simpa using h
      · exact h.elim
  · exact h.elim
theorem appendA_run (hS : Sim w0 σ H w) {t u ty : TypeId} {s x : AV} (h : appendA P t u s x H K) {s' x' : Value} (hs : VR σ s s') (hx : VR σ x x') :
    Eff P w0 σ K ((Builtin.append_ #[t, u] ty #[s', x']).run P w) := h.elim (fun h => appendR_run hS h hs hx) fun h => appendL_run hS h hs hx
end
end Go.Abs
