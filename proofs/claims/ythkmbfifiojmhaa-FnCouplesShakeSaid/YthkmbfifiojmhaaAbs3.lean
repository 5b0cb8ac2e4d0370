/- Tables of truth values, written and read. -/
import Derived.Test.YthkmbfifiojmhaaAbs2
set_option linter.unusedSimpArgs false
set_option linter.unusedVariables false
namespace Go.Abs
open Go.RowKit

/-- The table that may be written: each person's row is a row of its own. -/
def tabH (H : Heap) (n : Nat) (f : Nat → Nat → Bool) : Heap := ⟨H.n + n, fun b => if b < H.n then H.get b else if b < H.n + n then some (.cells (bools (rowT n (f (b - H.n)))) true) else none⟩
def tabO (base n : Nat) : AV := .lst none n 1 (trees (fun i => .slice (some (base + i)) 0 n 1 none) (List.range n))
/-- The table that is read. -/
def rowV (n : Nat) (g : Nat → Bool) : AV := .lst none n 1 (bools (rowT n g))
def tabT (n : Nat) (f : Nat → Nat → Bool) : AV := .lst none n 1 (trees (fun a => rowV n (f a)) (List.range n))
section
variable {P : Program} {w0 : World} {H H' H0 : Heap} {K : AV → Heap → Prop} {n0 n : Nat} {f : Nat → Nat → Bool}
theorem n_tabH : (tabH H n f).n = H.n + n := rfl
theorem tabH_get {a : Nat} (h : a < n) : (tabH H n f).get (H.n + a) = some (.cells (bools (rowT n (f a))) true) := by
  simp only [tabH]
  rw [if_neg (by omega), if_pos (by omega), Nat.add_sub_cancel_left]
theorem tabH_old {b : Nat} (h : b < H.n) : (tabH H n f).get b = H.get b := by
  simp only [tabH]
  rw [if_pos h]
theorem tabH_put {a x : Nat} {v : Bool} (ha : a < n) (hx : x < n) : (tabH H n f).put (H.n + a) (splice (bools (rowT n (f a))) x [.bool v]) = tabH H n (updT f a x v) := Heap.ext' rfl fun b => by
  simp only [Heap.put, tabH]
  by_cases e : b = H.n + a
  · subst e
    rw [if_pos rfl, if_neg (by omega), if_pos (by omega), Nat.add_sub_cancel_left, splice_row hx]
    congr 3
    unfold rowT
    apply List.map_congr_left
    intro y _
    simp [updT, rowSet]
  · rw [if_neg e]
    by_cases h1 : b < H.n
    · rw [if_pos h1, if_pos h1]
    · rw [if_neg h1, if_neg h1]
      by_cases h2 : b < H.n + n
      · rw [if_pos h2, if_pos h2]
        congr 3
        unfold rowT
        apply List.map_congr_left
        intro y _
        simp only [updT]
        rw [if_neg (by omega)]
      · rw [if_neg h2, if_neg h2]
theorem tabH_putOld {b : Nat} {cs : List AV} (h : b < H.n) : (tabH H n f).put b cs = tabH (H.put b cs) n f := Heap.ext' rfl fun c => by
  by_cases e : c = b
  · subst e
    simp [Heap.put, tabH, h]
  · simp only [Heap.put, tabH, if_neg e]
    by_cases h1 : c < H.n
    · simp [h1]
    · simp [h1]
      rfl
theorem tabH_wf (hw : H.wf) : (tabH H n f).wf := by
  intro b o hb
  simp only [tabH] at hb ⊢
  split at hb
  · omega
  · split at hb
    · omega
    · cases hb
theorem ext_tabH (hn : H0.n ≤ H.n) : Ext H0 (tabH H n f) = Ext H0 H := by
  refine propext ⟨fun h => ⟨hn, fun b hb => ?_⟩, fun h => ⟨by have := h.1; show H0.n ≤ H.n + n; omega, fun b hb => ?_⟩⟩
  · have := h.2 b hb
    rwa [tabH_old (by omega)] at this
  · rw [tabH_old (by omega)]; exact h.2 b hb
theorem flats_len : ∀ {l : List Bool}, (bools l).length = l.length := fun {l} => by simp [bools]
/-- What lies below a number, and no more. -/
def Heap.less (H : Heap) (n0 : Nat) : Heap := ⟨H.n, fun c => if c < n0 then H.get c else none⟩
theorem less_sub (hw : H.wf) : Sub (H.less n0) H := ⟨Nat.le_refl _, fun b o h => by
  simp only [Heap.less] at h
  split at h
  · exact ⟨h, hw _ _ h⟩
  · cases h⟩
theorem n_less : (H.less n0).n = H.n := rfl
theorem less_get {c : Nat} (h : c < n0) : (H.less n0).get c = H.get c := by simp [Heap.less, h]
theorem less_put {c : Nat} {cs : List AV} (h : c < n0) : (H.less n0).put c cs = (H.put c cs).less n0 := Heap.ext' rfl fun d => by
  simp only [Heap.less, Heap.put]
  by_cases e : d = c
  · subst e; simp [h]
  · simp [e]
theorem ext_less (h : H0.n ≤ n0) (hn : H0.n ≤ H.n) : Ext H0 (H.less n0) = Ext H0 H := by
  refine propext ⟨fun q => ⟨hn, fun b hb => ?_⟩, fun q => ⟨hn, fun b hb => ?_⟩⟩
  · have := q.2 b hb
    rwa [less_get (by omega)] at this
  · rw [less_get (by omega)]; exact q.2 b hb
theorem wf_less (hw : H.wf) : (H.less n0).wf := fun b o h => by
  simp only [Heap.less] at h
  split at h
  · exact hw _ _ h
  · cases h
/-- A table that no one writes any more. -/
theorem tab_fz {base : Nat} (hs : Sub H0 H) (hb : ∀ a, a < n → H0.get (base + a) = none) (hg : ∀ a, a < n → H.get (base + a) = some (.cells (bools (rowT n (f a))) true)) : Fz H H0 (tabO base n) (tabT n f) := by
  refine Fz.lst hs (FzL.map fun a ha => ?_)
  have ha := List.mem_range.1 ha
  refine Fz.row hs (hb a ha) (hg a ha) (by simp [flats_len, rowT]) ?_
  have e : ((bools (rowT n (f a))).drop 0).take (n * 1) = bools (rowT n (f a)) := by
    rw [List.drop_zero, List.take_of_length_le (by simp [flats_len, rowT])]
  rw [e]
  exact FzL.flat (flats_bools _)
/-- BRows of truth values, one for each person. -/
def BRows (H : Heap) (n : Nat) (Bs : List Nat) (f : Nat → Nat → Bool) : Prop := ∀ a (ha : a < Bs.length), H.get Bs[a] = some (.cells (bools (rowT n (f a))) true)
theorem BRows.put {Bs : List Nat} (h : BRows H n Bs f) (hd : Bs.Nodup) {a x : Nat} {v : Bool} (ha : a < Bs.length) : BRows (H.put Bs[a] (bools (rowT n (rowSet (f a) x v)))) n Bs (updT f a x v) := fun a' ha' => by
  by_cases e : a' = a
  · subst e
    rw [get_put_new]
    congr 3
    unfold rowT
    apply List.map_congr_left
    intro y _
    simp [updT, rowSet]
  · rw [get_put_old (fun e' => e (nodup_inj hd e')), h a' ha']
    congr 3
    unfold rowT
    apply List.map_congr_left
    intro y _
    simp only [updT]
    rw [if_neg (by omega)]
theorem BRows.alloc {Bs : List Nat} (h : BRows H n Bs f) (hw : H.wf) {ds : List AV} : BRows (H.alloc ds) n Bs f := fun a ha => by
  rw [get_alloc_old (by have := hw _ _ (h a ha); omega)]
  exact h a ha
theorem Tl.alloc {v : AV} {len sz : Nat} {cs ds : List AV} (h : Tl n0 H v len sz cs) (hw : H.wf) : Tl n0 (H.alloc ds) v len sz cs := by
  rcases h with ⟨b, rfl, h1, h2, h3⟩ | ⟨s, rfl, rfl, rfl⟩
  · exact .inl ⟨b, rfl, h1, by rw [get_alloc_old (by have := hw _ _ h2; omega)]; exact h2, h3⟩
  · exact .nil
theorem Tl.put {v : AV} {len sz c : Nat} {cs ds es : List AV} {wr : Bool} (h : Tl n0 H v len sz cs) (hg : H.get c = some (.cells es wr)) : Tl n0 (H.put c ds) v len sz cs := by
  rcases h with ⟨b, rfl, h1, h2, h3⟩ | ⟨s, rfl, rfl, rfl⟩
  · refine .inl ⟨b, rfl, h1, ?_, h3⟩
    rw [get_put_old (fun e => by subst e; rw [h2] at hg; cases hg)]
    exact h2
  · exact .nil
theorem wf_put (hw : H.wf) {b : Nat} {cs : List AV} (hb : b < H.n) : (H.put b cs).wf := fun c o h => by
  simp only [Heap.put] at h ⊢
  split at h
  · omega
  · exact hw _ _ h
theorem trees_snoc {α : Type} (g : α → AV) (l : List α) (x : α) : trees g l ++ [g x] = trees g (l ++ [x]) := by simp [trees]
/-- The inner rows told by numbers one behind the other. -/
theorem ACall.table {g : FuncId} {args : List AV} {K : AV → Heap → Prop} (h : ACall P w0 g args H K)
    (hK : ∀ v H', H.wf → H'.wf → K v H' → Ext H H' ∧ ∃ (Bs : List Nat), Bs.length = n ∧ Rc v (.lst none n 1 (trees (fun k => .slice (some k) 0 n 1 (some n)) Bs)) ∧ Bs.Nodup ∧ (∀ k ∈ Bs, H.n ≤ k) ∧ ∀ a (ha : a < Bs.length), H'.get Bs[a] = some (.cells (bools (rowT n (f a))) true)) :
    ACall P w0 g args H fun v H' => v = tabO H.n n ∧ H' = tabH H n f := by
  refine h.ren fun v H' hw hw' hu hum hk => ?_
  obtain ⟨he, Bs, hl, hrc, hnd, hlo, hrow⟩ := hK v H' hw hw' hk
  obtain ⟨ρ, hρ⟩ : ∃ ρ : Ren, ρ = fun c => if c < H.n then some (c, 0) else (Bs[c - H.n]?).map fun k => (k, 0) := ⟨_, rfl⟩
  have hlow : ∀ c, c < H.n → ρ c = some (c, 0) := fun c hc => by rw [hρ]; simp [hc]
  have hnew : ∀ a (ha : a < Bs.length), ρ (H.n + a) = some (Bs[a], 0) := fun a ha => by rw [hρ]; simp only; rw [if_neg (by omega), Nat.add_sub_cancel_left, List.getElem?_eq_getElem ha]; rfl
  have hget : ∀ c o, (tabH H n f).get c = some o → (∃ a, a < Bs.length ∧ c = H.n + a ∧ o = .cells (bools (rowT n (f a))) true) ∨ (c < H.n ∧ H.get c = some o) := by
    intro c o hc
    simp only [tabH] at hc
    split at hc
    · exact .inr ⟨by assumption, hc⟩
    · split at hc
      · cases hc
        exact .inl ⟨c - H.n, by omega, by omega, rfl⟩
      · cases hc
  have hfr : ∀ w0 σ w, Sim w0 σ H' w → ∀ g i ci, σ.fr g i ci → (Sig.ren w (tabH H n f) ρ σ).fr g i ci := fun w0 σ w hS g i ci h => ⟨hS.fz g i ci h, fun c o p hc hwr hp e => by
    rcases hget c o hc with ⟨a, ha, rfl, rfl⟩ | ⟨hlt, hc⟩
    · obtain ⟨p0, hp0, _⟩ := hS.obj _ _ (hrow a ha)
      rw [renM_eq (hnew a ha) hp0] at hp
      cases hp
      simp only at e; subst e
      have := (hS.own _ _ p0 (hrow a ha) rfl hp0 i ci h).1
      cases this
    · have hc' : H'.get c = some o := by rw [he.2 c hlt]; exact hc
      obtain ⟨p0, hp0, _⟩ := hS.obj c _ hc'
      rw [renM_eq (hlow c hlt) hp0] at hp
      cases hp
      simp only at e; subst e
      obtain ⟨q1, q2, q3⟩ := hS.own c _ p0 hc' hwr hp0 i ci h
      exact ⟨q1, by simp only; omega, q3⟩⟩
  have hsame : ∀ vs, unders H.n vs → FzRL H' (tabH H n f) ρ vs vs := fun vs hun w0 σ w us hS hv =>
    VRs.mono' (fun b x hb h => by show Sig.renM ρ σ b = _; rw [renM_eq (hlow b hb) h]; rfl) (hfr w0 σ w hS) vs us hun hv
  have ht : Told1 H' (tabH H n f) H.n ρ := by
    refine ⟨hlow, fun c x hc => ?_, fun c ds wr hc => ?_, fun c hc => ?_, fun c es hc => ?_, fun c c' o x x' hc hwr hc' hne hx hx' => ?_⟩
    · rw [hρ] at hc
      simp only at hc
      show c < H.n + n
      split at hc
      · omega
      · obtain ⟨k, hk, _⟩ := Option.map_eq_some_iff.1 hc
        have := (List.getElem?_eq_some_iff.1 hk).1
        omega
    · rcases hget c _ hc with ⟨a, ha, rfl, e⟩ | ⟨hlt, hc⟩
      · cases e
        refine ⟨Bs[a], 0, _, true, hnew a ha, hrow a ha, fun _ => rfl, by omega, ?_⟩
        rw [List.drop_zero, List.take_length]
        exact FzRL.flat (flats_bools _)
      · refine ⟨c, 0, ds, wr, hlow c hlt, by rw [he.2 c hlt]; exact hc, id, by omega, ?_⟩
        rw [List.drop_zero, List.take_length]
        exact hsame ds (hu c ds wr hc)
    · rcases hget c _ hc with ⟨a, ha, rfl, e⟩ | ⟨hlt, hc⟩
      · cases e
      · exact ⟨c, hlow c hlt, by rw [he.2 c hlt]; exact hc⟩
    · rcases hget c _ hc with ⟨a, ha, rfl, e⟩ | ⟨hlt, hc⟩
      · cases e
      · obtain ⟨q1, q2⟩ := hum c es hc
        exact ⟨hlow c hlt, by rw [he.2 c hlt]; exact hc, hsame _ q1, hsame _ q2⟩
    · have hcase : ∀ d o, (tabH H n f).get d = some o → (∃ a, ∃ ha : a < Bs.length, d = H.n + a ∧ ρ d = some (Bs[a], 0)) ∨ (d < H.n ∧ ρ d = some (d, 0)) := fun d o hd => by
        rcases hget d o hd with ⟨a, ha, rfl, _⟩ | ⟨hlt, _⟩
        · exact .inl ⟨a, ha, rfl, hnew a ha⟩
        · exact .inr ⟨hlt, hlow d hlt⟩
      obtain ⟨o', hc'⟩ := Option.ne_none_iff_exists'.1 hc'
      rcases hcase c o hc with ⟨a, ha, rfl, e1⟩ | ⟨h1, e1⟩ <;> rcases hcase c' o' hc' with ⟨a', ha', rfl, e2⟩ | ⟨h2, e2⟩ <;> rw [e1] at hx <;> rw [e2] at hx' <;> cases hx <;> cases hx' <;> simp only
      · exact fun e => hne (by rw [nodup_inj hnd e])
      · have := hlo _ (List.getElem_mem ha); omega
      · have := hlo _ (List.getElem_mem ha'); omega
      · exact hne
  refine ⟨tabH H n f, ρ, tabO H.n n, ht, ?_, rfl, rfl⟩
  refine fun w0 σ w u hS hv => FzR.lst ht (FzRL.of_get (by simp [trees, hl]) fun i a r ha hr => ?_) w0 σ w u hS (hrc _ _ hv)
  have hi : i < Bs.length := by have := (List.getElem?_eq_some_iff.1 ha).1; simpa [trees] using this
  simp only [trees, List.getElem?_map, List.getElem?_eq_getElem hi, Option.map_some, Option.some.injEq] at ha
  simp only [trees, List.getElem?_map, List.getElem?_range (show i < n by omega), Option.map_some, Option.some.injEq] at hr
  subst ha hr
  exact (FzR.row (b := H.n + i) (off := 0) (hnew i hi) (Nat.le_refl _)).nocap rfl
/-- The table read alone. -/
theorem PCall.table {g : FuncId} {args : List AV} (h : ∀ w0 H, H.wf → ACall P w0 g args H fun v H' => v = tabO H.n n ∧ H' = tabH H n f) : PCall P g args fun v => v = tabT n f :=
  PCall.of fun w0 H hw => (h w0 H hw).mono fun v H' ⟨h1, h2⟩ => by
    subst h1 h2
    have he : Ext H (tabH H n f) := by rw [ext_tabH (Nat.le_refl _)]; exact Ext.refl _
    refine ⟨he, _, tab_fz (he.sub hw) (fun a ha => ?_) (fun a ha => tabH_get ha), rfl⟩
    cases hg : H.get (H.n + a) with
    | none => rfl
    | some o => have := hw _ _ hg; omega
theorem run_frzA {g : FuncId} (hw : H.wf) (h : ACall P w0 g [tabT n f] ((tabH H n f).less H.n) K) : ACall P w0 g [tabO H.n n] (tabH H n f) K :=
  ACall.frz (H0 := (tabH H n f).less H.n) (less_sub (tabH_wf hw)) rfl h (FzL.cons (tab_fz (less_sub (tabH_wf hw)) (fun a ha => by simp only [Heap.less]; rw [if_neg (by omega)]) fun a ha => tabH_get ha) FzL.nil)
theorem Tl.base {v : AV} {len sz n1 : Nat} {cs : List AV} (h : Tl n0 H v len sz cs) (hn : n1 ≤ n0) : Tl n1 H v len sz cs := by
  rcases h with ⟨b, rfl, h1, h2, h3⟩ | ⟨s, rfl, rfl, rfl⟩
  · exact .inl ⟨b, rfl, by omega, h2, h3⟩
  · exact .nil
/-- The table handed on, never to be written again. -/
theorem run_frzT {g : FuncId} {R : AV → Prop} (hw : H.wf) (h : PCall P g [tabT n f] R) (hk : ∀ v, R v → Run (K v ((tabH H n f).less H.n))) : ACall P w0 g [tabO H.n n] (tabH H n f) K :=
  ACall.frz (H0 := (tabH H n f).less H.n) (less_sub (tabH_wf hw)) rfl (run_pure h hk) (FzL.cons (tab_fz (less_sub (tabH_wf hw)) (fun a ha => by simp only [Heap.less]; rw [if_neg (by omega)]) fun a ha => tabH_get ha) FzL.nil)
theorem Words.uniq {n : Nat} {ws ws' : List Nat} (h : Words n f ws) (h' : Words n f ws') : ws = ws' := by
  apply List.ext_getElem (by rw [h.1, h'.1])
  intro i h1 h2
  apply Nat.eq_of_testBit_eq
  intro j
  rw [(h.2 i h1).2 j, (h'.2 i h2).2 j]
end
/-- Words of bits. -/
def wordOf : Nat → (Nat → Bool) → Nat
  | 0, _ => 0
  | n + 1, g => wordOf n g ||| (if g n then 2 ^ n else 0)
theorem wordOf_bit (g : Nat → Bool) (x : Nat) : ∀ n, (wordOf n g).testBit x = (decide (x < n) && g x)
  | 0 => by simp [wordOf]
  | n + 1 => by
    simp only [wordOf, Nat.testBit_or, wordOf_bit g x n]
    by_cases h : x = n
    · subst h
      cases hg : g x <;> simp
    · have h1 : decide (x < n + 1) = decide (x < n) := by rw [Bool.eq_iff_iff]; simp; omega
      rw [h1]
      split
      · rw [Nat.testBit_two_pow]
        simp [show ¬ n = x from fun e => h e.symm]
      · simp
theorem wordOf_lt (g : Nat → Bool) : ∀ n, wordOf n g < 2 ^ n
  | 0 => by simp [wordOf]
  | n + 1 => by
    refine Nat.or_lt_two_pow (Nat.lt_of_lt_of_le (wordOf_lt g n) (Nat.pow_le_pow_right (by omega) (by omega))) ?_
    split
    · exact Nat.pow_lt_pow_right (by omega) (by omega)
    · exact Nat.two_pow_pos _
def wordsAt (n : Nat) (f : Nat → Nat → Bool) : List Nat := (List.range n).map fun a => wordOf n (f a)
theorem wordsAt_ok {n : Nat} (hn : n ≤ 16) (f : Nat → Nat → Bool) : Words n f (wordsAt n f) := by
  refine ⟨by simp [wordsAt], fun a h => ?_⟩
  simp only [wordsAt, List.getElem_map, List.getElem_range]
  refine ⟨Nat.lt_of_lt_of_le (wordOf_lt _ n) (Nat.le_trans (Nat.pow_le_pow_right (by omega) hn) (by omega)), fun x => wordOf_bit _ _ _⟩
theorem Words.eq {n : Nat} (hn : n ≤ 16) {f : Nat → Nat → Bool} {ws : List Nat} (h : Words n f ws) : ws = wordsAt n f := h.uniq (wordsAt_ok hn f)
theorem wordsAt_length {n : Nat} {f : Nat → Nat → Bool} : (wordsAt n f).length = n := by simp [wordsAt]
def wordsT (n : Nat) (f : Nat → Nat → Bool) : AV := .lst none n 1 (u16s (wordsAt n f))
theorem u16s_len {l : List Nat} : (u16s l).length = l.length := by simp [u16s]
attribute [simp] wordsAt_length u16s_len
theorem trees_range {g : Nat → AV} {n i : Nat} (h : i < n) : (trees g (List.range n))[i]? = some (g i) := by simp [trees, h]
theorem rowT_at {g : Nat → Bool} {n i : Nat} (h : i < n) : (bools (rowT n g))[i]? = some (.bool (g i)) := by simp [bools, rowT, h]
theorem pairs_nil : pairs [] = [] := rfl
theorem ints_nil : ints [] = [] := rfl
theorem trees_nil {α : Type} {g : α → AV} : trees g [] = [] := rfl
mutual
theorem under_of_flat {n : Nat} : ∀ (a : AV), a.flat = true → a.under n
  | .bool _, _ => by simp only [AV.under]
  | .int _ _, _ => by simp only [AV.under]
  | .str _, _ => by simp only [AV.under]
  | .ptr _ _, h => by simp [AV.flat] at h
  | .slice none _ _ _ _, _ => by simp only [AV.under]
  | .slice (some _) _ _ _ _, h => by simp [AV.flat] at h
  | .map _, h => by simp [AV.flat] at h
  | .func _ _ _, h => by simp [AV.flat] at h
  | .nilFunc, _ => by simp only [AV.under]
  | .nilIface, _ => by simp only [AV.under]
  | .lst _ _ _ _, h => by simp [AV.flat] at h
  | .fptr _, h => by simp [AV.flat] at h
  | .agg cs, h => by simp only [AV.flat] at h; simp only [AV.under]; exact unders_of_flats cs h
  | .tuple cs, h => by simp only [AV.flat] at h; simp only [AV.under]; exact unders_of_flats cs h
  | .undef, _ => by simp only [AV.under]
theorem unders_of_flats {n : Nat} : ∀ (as : List AV), flats as = true → unders n as
  | [], _ => by simp only [unders]
  | a :: as, h => by
    simp only [flats, Bool.and_eq_true] at h
    simp only [unders]
    exact ⟨under_of_flat a h.1, unders_of_flats as h.2⟩
end
theorem under_lst {n len sz : Nat} {cs : List AV} (h : unders n cs) : (AV.lst none len sz cs).under n := by
  simp only [AV.under]
  exact ⟨(by intro b hb; cases hb), h⟩
theorem unders_trees {α : Type} {n : Nat} {f : α → AV} : ∀ {l : List α}, (∀ x ∈ l, (f x).under n) → unders n (trees f l)
  | [], _ => by simp [trees, unders]
  | x :: l, h => by
    have := unders_trees (l := l) fun y hy => h y (by simp [hy])
    simp only [trees] at this
    simp only [trees, List.map_cons, unders]
    exact ⟨h x (by simp), this⟩
/-- A tree comes back as it is. -/
theorem Done.same {H H' : Heap} {v r : AV} (hw : H.wf) (he : Ext H H') (hu : v.under H.n) (e : v = r) : Done H H' v fun x => x = r := .mk hw he (fun hs => Fz.same hs hu) e
theorem ext_put' {H H' : Heap} {cs : List AV} {c : Nat} (hb : H.n ≤ c) : Ext H (H'.put c cs) = Ext H H' := ext_put hb
attribute [simp] ext_less ext_tabH
attribute [simp] trees_range rowT_at pairs_nil ints_nil trees_nil
attribute [simp] n_tabH tabH_get tabH_old tabH_put tabH_putOld n_less less_get
end Go.Abs
