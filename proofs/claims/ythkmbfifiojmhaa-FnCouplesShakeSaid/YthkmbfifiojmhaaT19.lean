/- The couples' handshakes: what the numbers must be. No program in sight. -/
import Derived.Test.YthkmbfifiojmhaaT18
set_option linter.unusedSimpArgs false
set_option linter.unusedVariables false
namespace Go.Proofs.Ythkmbfifiojmhaa
theorem nodup_below : ∀ (m : Nat) (l : List Nat), l.Nodup → (∀ x ∈ l, x < m) → l.length ≤ m
  | 0, [], _, _ => by simp
  | 0, x :: l, _, h => by have := h x (by simp); omega
  | m + 1, l, hn, h => by
    have h1 := nodup_below m (l.erase m) (hn.erase m) fun x hx => by
      have := (hn.mem_erase_iff).1 hx
      have := h x this.2
      omega
    rw [List.length_erase] at h1
    split at h1 <;> omega
/-- As many different numbers as there are numbers below a bound: all come. -/
theorem nodup_all {l : List Nat} (hn : l.Nodup) (h : ∀ x ∈ l, x < l.length) {v : Nat} (hv : v < l.length) : v ∈ l := by
  refine Classical.byContradiction fun hc => ?_
  have := nodup_below l.length (v :: l) (List.nodup_cons.2 ⟨hc, hn⟩) fun x hx => by
    rcases List.mem_cons.1 hx with rfl | hx
    · exact hv
    · exact h x hx
  rw [List.length_cons] at this
  omega
/-- One's spouse. -/
def sp (a : Nat) : Nat := if a % 2 = 0 then a + 1 else a - 1
theorem sp_sp (a : Nat) : sp (sp a) = a := by unfold sp; split <;> split <;> omega
theorem sp_ne (a : Nat) : sp a ≠ a := by unfold sp; split <;> omega
theorem sp_inj {a b : Nat} (h : sp a = sp b) : a = b := by rw [← sp_sp a, ← sp_sp b, h]
/-- Removing one who is there once. -/
theorem count_without {p : Nat → Bool} {x : Nat} : ∀ {S : List Nat}, S.Nodup → x ∈ S → (S.filter (· != x)).countP p = S.countP p - (if p x then 1 else 0) ∧ (if p x then 1 else 0) ≤ S.countP p
  | [], _, h => by simp at h
  | y :: S, hn, h => by
    have hn' := List.nodup_cons.1 hn
    by_cases e : y = x
    · subst e
      have e2 : S.filter (· != y) = S := List.filter_eq_self.2 fun a ha => by
        simp only [bne_iff_ne, ne_eq]
        rintro rfl
        exact hn'.1 ha
      rw [List.filter_cons_of_neg (by simp), e2, List.countP_cons]
      split <;> simp
    · have hx : x ∈ S := by
        rcases List.mem_cons.1 h with rfl | h
        · exact absurd rfl e
        · exact h
      have ih := count_without (p := p) hn'.2 hx
      rw [List.filter_cons_of_pos (by simpa using e), List.countP_cons, List.countP_cons, ih.1]
      omega
theorem len_without {x : Nat} {S : List Nat} (hn : S.Nodup) (h : x ∈ S) : (S.filter (· != x)).length = S.length - 1 := by
  have := (count_without (p := fun _ => true) hn h).1
  simpa [List.countP_true] using this
theorem mem_without {x y : Nat} {S : List Nat} : y ∈ S.filter (· != x) ↔ y ∈ S ∧ y ≠ x := by simp
section
variable {f : Nat → Nat → Bool}
/-- How many hands of a party one shakes. -/
def hands (f : Nat → Nat → Bool) (S : List Nat) (a : Nat) : Nat := S.countP (f a)
theorem hands_without2 {S : List Nat} {a x y : Nat} (hn : S.Nodup) (hx : x ∈ S) (hy : y ∈ S) (hxy : y ≠ x) : hands f ((S.filter (· != x)).filter (· != y)) a + (if f a x then 1 else 0) + (if f a y then 1 else 0) = hands f S a := by
  have h1 := count_without (p := f a) hn hx
  have h2 := count_without (p := f a) (hn.filter (· != x)) (mem_without.2 ⟨hy, hxy⟩)
  unfold hands
  rw [h2.1]
  have := h2.2
  rw [h1.1] at this ⊢
  have := h1.2
  omega
/-- Nobody shakes more hands than there are others, but the spouse. -/
theorem hands_le {S : List Nat} {a : Nat} (hn : S.Nodup) (ha : a ∈ S) (hs : sp a ∈ S) (h0 : f a a = false) (h1 : f a (sp a) = false) : hands f S a + 2 ≤ S.length := by
  have e := hands_without2 (f := f) (a := a) hn ha hs (sp_ne a)
  rw [h0, h1] at e
  have l1 := len_without hn ha
  have l2 := len_without (hn.filter (· != a)) (mem_without.2 ⟨hs, sp_ne a⟩)
  have p1 : 0 < S.length := List.length_pos_of_mem ha
  have p2 : 0 < (S.filter (· != a)).length := List.length_pos_of_mem (mem_without.2 ⟨hs, sp_ne a⟩)
  have := List.countP_le_length (p := f a) (l := (S.filter (· != a)).filter (· != sp a))
  simp only [hands, Bool.false_eq_true, if_false] at e ⊢
  omega
/-- One who shakes as many hands as one may shakes everybody's hand. -/
theorem hands_full {S : List Nat} {a : Nat} (hn : S.Nodup) (ha : a ∈ S) (hs : sp a ∈ S) (h0 : f a a = false) (h1 : f a (sp a) = false) (hf : hands f S a + 2 = S.length) {b : Nat} (hb : b ∈ S) (hba : b ≠ a) (hbs : b ≠ sp a) : f a b = true := by
  have e := hands_without2 (f := f) (a := a) hn ha hs (sp_ne a)
  rw [h0, h1] at e
  have l1 := len_without hn ha
  have l2 := len_without (hn.filter (· != a)) (mem_without.2 ⟨hs, sp_ne a⟩)
  have p1 : 0 < S.length := List.length_pos_of_mem ha
  have p2 : 0 < (S.filter (· != a)).length := List.length_pos_of_mem (mem_without.2 ⟨hs, sp_ne a⟩)
  simp only [hands, Bool.false_eq_true, if_false] at e hf
  have := (List.countP_eq_length (p := f a) (l := (S.filter (· != a)).filter (· != sp a))).1 (by omega)
  exact this b (mem_without.2 ⟨mem_without.2 ⟨hb, hba⟩, hbs⟩)
theorem hands_zero {S : List Nat} {a b : Nat} (h : hands f S a = 0) (hb : b ∈ S) : f a b = false := by
  have := List.countP_eq_zero.1 h b hb
  simpa using this
/-- The couples' law. -/
theorem couples_law (hsym : ∀ a b, f a b = f b a) (hirr : ∀ a, f a a = false) : ∀ (m : Nat) (S : List Nat), S.length = 2 * m → S.Nodup → 0 ∈ S → (∀ a ∈ S, sp a ∈ S) → (∀ a ∈ S, f a (sp a) = false) → (∀ a ∈ S, ∀ b ∈ S, a ≠ 0 → b ≠ 0 → hands f S a = hands f S b → a = b) →
    hands f S 0 = m - 1 ∧ hands f S 1 = m - 1 ∧ ∀ a ∈ S, a ≠ 0 → a ≠ 1 → hands f S a + hands f S (sp a) = 2 * m - 2
  | 0, S, hl, _, h0, _, _, _ => by
    have := List.length_pos_of_mem h0
    omega
  | 1, S, hl, hn, h0, hs, hf, hd => by
    have h1 : 1 ∈ S := hs 0 h0
    have a0 := hands_le hn h0 (hs 0 h0) (hirr 0) (hf 0 h0)
    have a1 := hands_le hn h1 (hs 1 h1) (hirr 1) (hf 1 h1)
    refine ⟨by omega, by omega, fun a ha q0 q1 => ?_⟩
    have l1 := len_without hn h0
    have l2 := len_without (hn.filter (· != 0)) (mem_without.2 ⟨h1, by omega⟩)
    have := List.length_pos_of_mem (mem_without.2 ⟨mem_without.2 ⟨ha, q0⟩, q1⟩)
    omega
  | m + 2, S, hl, hn, h0, hs, hf, hd => by
    have hup : ∀ a ∈ S, hands f S a + 2 ≤ S.length := fun a ha => hands_le hn ha (hs a ha) (hirr a) (hf a ha)
    have nd : ((S.filter (· != 0)).map (hands f S)).Nodup := by
      rw [List.nodup_iff_pairwise_ne, List.pairwise_map]
      refine List.Pairwise.imp_of_mem ?_ (List.nodup_iff_pairwise_ne.1 (hn.filter (· != 0)))
      intro a b ha hb hab he
      exact hab (hd a (mem_without.1 ha).1 b (mem_without.1 hb).1 (mem_without.1 ha).2 (mem_without.1 hb).2 he)
    have hlen : ((S.filter (· != 0)).map (hands f S)).length = 2 * m + 3 := by
      rw [List.length_map, len_without hn h0]; omega
    have hall : ∀ v, v < 2 * m + 3 → ∃ a ∈ S, a ≠ 0 ∧ hands f S a = v := fun v hv => by
      have := nodup_all nd (fun x hx => by
        obtain ⟨a, ha, rfl⟩ := List.mem_map.1 hx
        have := hup a (mem_without.1 ha).1
        omega) (v := v) (by omega)
      obtain ⟨a, ha, rfl⟩ := List.mem_map.1 this
      exact ⟨a, (mem_without.1 ha).1, (mem_without.1 ha).2, rfl⟩
    obtain ⟨x, hx, x0, hxv⟩ := hall (2 * m + 2) (by omega)
    obtain ⟨y, hy, y0, hyv⟩ := hall 0 (by omega)
    have hxy : y ≠ x := fun e => by subst e; omega
    have hysp : y = sp x := Classical.byContradiction fun hc => by
      have h1 := hands_full hn hx (hs x hx) (hirr x) (hf x hx) (by omega) hy hxy hc
      have h2 := hands_zero hyv hx
      rw [hsym] at h2
      rw [h1] at h2
      cases h2
    have x1 : x ≠ 1 := fun e => by subst e; exact y0 hysp
    have y1 : y ≠ 1 := fun e => by
      have : sp y = x := by rw [hysp, sp_sp]
      rw [e] at this
      exact x0 this.symm
    -- the others
    have hmem : ∀ a, a ∈ (S.filter (· != x)).filter (· != y) ↔ a ∈ S ∧ a ≠ x ∧ a ≠ y := fun a => by rw [mem_without, mem_without, and_assoc]
    have hstep : ∀ a, a ∈ S → a ≠ x → a ≠ y → hands f ((S.filter (· != x)).filter (· != y)) a + 1 = hands f S a := fun a ha hax hay => by
      have e := hands_without2 (f := f) (a := a) hn hx hy hxy
      have h1 := hands_full hn hx (hs x hx) (hirr x) (hf x hx) (by omega) ha hax (by rw [← hysp]; exact hay)
      have h2 := hands_zero hyv ha
      rw [hsym] at h1 h2
      rw [h1, h2] at e
      simpa using e
    have l1 := len_without hn hx
    have l2 := len_without (hn.filter (· != x)) (mem_without.2 ⟨hy, hxy⟩)
    have spx : ∀ a, a ≠ x → a ≠ y → sp a ≠ x ∧ sp a ≠ y := fun a h1 h2 => by
      constructor
      · intro e; exact h2 (by rw [hysp, ← e, sp_sp])
      · intro e; rw [hysp] at e; exact h1 (sp_inj e)
    have ih := couples_law hsym hirr (m + 1) ((S.filter (· != x)).filter (· != y)) (by omega) ((hn.filter _).filter _) ((hmem 0).2 ⟨h0, fun e => x0 e.symm, fun e => y0 e.symm⟩)
      (fun a ha => by
        have h := (hmem a).1 ha
        have := spx a h.2.1 h.2.2
        exact (hmem _).2 ⟨hs a h.1, this.1, this.2⟩)
      (fun a ha => hf a ((hmem a).1 ha).1)
      (fun a ha b hb a0 b0 e => by
        have h1 := (hmem a).1 ha
        have h2 := (hmem b).1 hb
        refine hd a h1.1 b h2.1 a0 b0 ?_
        rw [← hstep a h1.1 h1.2.1 h1.2.2, ← hstep b h2.1 h2.2.1 h2.2.2, e])
    have s0 := hstep 0 h0 (fun e => x0 e.symm) (fun e => y0 e.symm)
    have h1S : 1 ∈ S := hs 0 h0
    have s1 := hstep 1 h1S (fun e => x1 e.symm) (fun e => y1 e.symm)
    refine ⟨by omega, by omega, fun a ha a0 a1 => ?_⟩
    by_cases e1 : a = x
    · subst e1
      rw [← hysp]
      omega
    · by_cases e2 : a = y
      · subst e2
        rw [hysp, sp_sp, ← hysp]
        omega
      · have h3 := ih.2.2 a ((hmem a).2 ⟨ha, e1, e2⟩) a0 a1
        have s2 := hstep a ha e1 e2
        have s3 := hstep (sp a) (hs a ha) (spx a e1 e2).1 (spx a e1 e2).2
        omega
end
/-- A rising list of as many numbers as there are below its bound is the list of them. -/
theorem rising_is {l : List Int} (hl : l.Pairwise (· < ·)) (hb : ∀ x ∈ l, 0 ≤ x ∧ x < l.length) : ∀ i (h : i < l.length), l[i] = (i : Int) := by
  have hp := List.pairwise_iff_getElem.1 hl
  have lo : ∀ i (h : i < l.length), (i : Int) ≤ l[i] := by
    intro i
    induction i with
    | zero => intro h; exact (hb _ (List.getElem_mem h)).1
    | succ i ih =>
      intro h
      have h1 := ih (by omega)
      have h2 := hp i (i + 1) (by omega) h (by omega)
      omega
  have hi : ∀ j i (h : i < l.length), i + j + 1 = l.length → l[i] ≤ (i : Int) := by
    intro j
    induction j with
    | zero =>
      intro i h e
      have := (hb _ (List.getElem_mem h)).2
      omega
    | succ j ih =>
      intro i h e
      have h1 := ih (i + 1) (by omega) (by omega)
      have h2 := hp i (i + 1) h (by omega) (by omega)
      omega
  intro i h
  have h1 := lo i h
  have h2 := hi (l.length - i - 1) i h (by omega)
  omega
end Go.Proofs.Ythkmbfifiojmhaa
