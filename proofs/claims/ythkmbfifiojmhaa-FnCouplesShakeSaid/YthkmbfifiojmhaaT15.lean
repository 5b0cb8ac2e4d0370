/- Told numbers, and the spouse's. -/
import Derived.Test.YthkmbfifiojmhaaT14
set_option linter.unusedSimpArgs false
set_option linter.unusedVariables false
set_option maxRecDepth 100000
namespace Go.Proofs.Ythkmbfifiojmhaa
open Go.Abs
variable {w0 : World} {H : Heap}
/-- One of couples. -/
def CpP (n : Int) (ps : List (Int × Int)) : Prop := EvP n ps ∧ CoupleP n.toNat (fr ps)
def AnsTold (n : Int) (ps : List (Int × Int)) (v : AV) : Prop := (CpP n ps ∧ v = .tuple [intsT (sortedZ (toldL n.toNat (fr ps))), .bool true]) ∨ (¬ CpP n ps ∧ v = .tuple [intsT [], .bool false])
def AnsSpouse (n : Int) (ps : List (Int × Int)) (v : AV) : Prop := (CpP n ps ∧ v = .tuple [.int .i64 (deg n.toNat (fr ps) 1), .bool true]) ∨ (¬ CpP n ps ∧ v = .tuple [.int .i64 0, .bool false])
def AnsNumbers (n : Int) (ps : List (Int × Int)) (v : AV) : Prop := (GoodP n ps ∧ v = .tuple [intsT (degs n.toNat (fr ps)), .bool true]) ∨ (¬ GoodP n ps ∧ v = .tuple [intsT [], .bool false])
/-- No list came. -/
theorem Done.nolist {H H' : Heap} {R : AV → Prop} (he : Ext H H') (h : R (.tuple [intsT [], .bool false])) : Done H H' (.tuple [.slice none 0 0 1 (some 0), .bool false]) R := ⟨he, _, Fz.tuple (FzL.cons Fz.nil (FzL.cons (Fz.flat rfl) FzL.nil)), h⟩
theorem Done.listOk {H H' : Heap} {R : AV → Prop} {l : List Int} {n : Nat} (hw : H.wf) (he : Ext H H') (hn : l.length = n) (h : R (.tuple [intsT l, .bool true])) : Done H H' (.tuple [.lst none n 1 (ints l), .bool true]) R :=
  .mk hw he (fun hs => Fz.tuple (FzL.cons (Fz.same hs (under_lst (unders_of_flats _ (flats_ints _)))) (FzL.cons (Fz.flat rfl) FzL.nil))) (by subst hn; exact h)
theorem implTold_ok (n : Int) (ps : List (Int × Int)) (hl : ps.length < 2 ^ 31) : PCall Try.prog 19 [partyT n ps] (AnsTold n ps) := by
  refine PCall.run mix Try.func19 (by kernel_rfl) fun w0 H hw => ?_
  simp (disch := first | omega | (simp only [n_alloc, n_put, n_kill, n_allocT, n_tabH, n_less]; omega) | (simp; done) | fail) [Try.f19]
  refine box_f rfl ?_
  simp (disch := first | omega | (simp only [n_alloc, n_put, n_kill, n_allocT, n_tabH, n_less]; omega) | (simp; done) | fail)
  refine run_pure (implAre_ok n ps hl) fun v hv => ?_
  rcases hv with ⟨hE, a, rfl, ha⟩ | ⟨hE, rfl⟩
  · simp (disch := first | omega | (simp only [n_alloc, n_put, n_kill, n_allocT, n_tabH, n_less]; omega) | (simp; done) | fail)
    refine cNB (fun q => ?_) fun q => ?_
    · simp (disch := first | omega | (simp only [n_alloc, n_put, n_kill, n_allocT, n_tabH, n_less]; omega) | (simp; done) | fail)
      exact Done.nolist (Ext.refl _) (.inr ⟨fun h => by have := ha.2 h.2; simp_all, rfl⟩)
    · obtain ⟨n, rfl⟩ := Int.eq_ofNat_of_zero_le hE.1.1.1
      have h3 := hE.2
      simp (disch := first | omega | (simp only [n_alloc, n_put, n_kill, n_allocT, n_tabH, n_less]; omega) | (simp; done) | fail)
      refine call_of (told_ok n ps hE.1 (by omega) hl) fun v H1 hw1 ⟨he1, hO⟩ => ?_
      simp (disch := first | omega | (simp only [n_alloc, n_put, n_kill, n_allocT, n_tabH, n_less]; omega) | (simp; done) | fail)
      have hsl : (sortedZ (toldL n (fr ps))).length = n - 1 := by rw [sortedZ_length, toldL_length]
      refine Done.mk hw he1 (r := .tuple [.lst none (n - 1) 1 (ints (sortedZ (toldL n (fr ps)))), .bool true]) (fun hs => Fz.tuple (FzL.cons (own_fz hs (fun b hb => ?_) hO) (FzL.cons (Fz.flat rfl) FzL.nil))) (.inl ⟨⟨hE, ha.1 q⟩, ?_⟩)
      · cases hh : H.get b with
        | none => rfl
        | some o => have := hw _ _ hh; omega
      · simp [hsl]
  · simp (disch := first | omega | (simp only [n_alloc, n_put, n_kill, n_allocT, n_tabH, n_less]; omega) | (simp; done) | fail)
    exact Done.nolist (Ext.refl _) (.inr ⟨fun h => hE h.1, rfl⟩)
theorem implSpouse_ok (n : Int) (ps : List (Int × Int)) (hl : ps.length < 2 ^ 31) : PCall Try.prog 21 [partyT n ps] (AnsSpouse n ps) := by
  refine PCall.run mix Try.func21 (by kernel_rfl) fun w0 H hw => ?_
  simp (disch := first | omega | (simp only [n_alloc, n_put, n_kill, n_allocT, n_tabH, n_less]; omega) | (simp; done) | fail) [Try.f21]
  refine box_f rfl ?_
  simp (disch := first | omega | (simp only [n_alloc, n_put, n_kill, n_allocT, n_tabH, n_less]; omega) | (simp; done) | fail)
  refine run_pure (implAre_ok n ps hl) fun v hv => ?_
  rcases hv with ⟨hE, a, rfl, ha⟩ | ⟨hE, rfl⟩
  · simp (disch := first | omega | (simp only [n_alloc, n_put, n_kill, n_allocT, n_tabH, n_less]; omega) | (simp; done) | fail)
    refine cNB (fun q => ?_) fun q => ?_
    · simp (disch := first | omega | (simp only [n_alloc, n_put, n_kill, n_allocT, n_tabH, n_less]; omega) | (simp; done) | fail)
      exact Done.flat (Ext.refl _) rfl (.inr ⟨fun h => by have := ha.2 h.2; simp_all, rfl⟩)
    · obtain ⟨n, rfl⟩ := Int.eq_ofNat_of_zero_le hE.1.1.1
      have h3 := hE.2
      simp (disch := first | omega | (simp only [n_alloc, n_put, n_kill, n_allocT, n_tabH, n_less]; omega) | (simp; done) | fail)
      refine run_pure (tableT_ok n ps hE.1 hl) fun v hv => ?_
      subst hv
      simp (disch := first | omega | (simp only [n_alloc, n_put, n_kill, n_allocT, n_tabH, n_less]; omega) | (simp; done) | fail)
      refine run_pure (number_ok n (fr ps) 1 (by have := hE.1.1; omega) (by omega)) fun v hv => ?_
      subst hv
      simp (disch := first | omega | (simp only [n_alloc, n_put, n_kill, n_allocT, n_tabH, n_less]; omega) | (simp; done) | fail)
      exact Done.flat (Ext.refl _) rfl (.inl ⟨⟨hE, ha.1 q⟩, rfl⟩)
  · simp (disch := first | omega | (simp only [n_alloc, n_put, n_kill, n_allocT, n_tabH, n_less]; omega) | (simp; done) | fail)
    exact Done.flat (Ext.refl _) rfl (.inr ⟨fun h => hE h.1, rfl⟩)
theorem numbersOf_ok (n : Int) (ps : List (Int × Int)) (hl : ps.length < 2 ^ 31) : PCall Try.prog 24 [partyT n ps] (AnsNumbers n ps) := by
  refine PCall.run mix Try.func24 (by kernel_rfl) fun w0 H hw => ?_
  simp (disch := first | omega | (simp only [n_alloc, n_put, n_kill, n_allocT, n_tabH, n_less]; omega) | (simp; done) | fail) [Try.f24]
  refine box_f rfl ?_
  simp (disch := first | omega | (simp only [n_alloc, n_put, n_kill, n_allocT, n_tabH, n_less]; omega) | (simp; done) | fail)
  refine run_pureB (isParty_ok n ps hl) fun b hb => ?_
  simp (disch := first | omega | (simp only [n_alloc, n_put, n_kill, n_allocT, n_tabH, n_less]; omega) | (simp; done) | fail)
  refine cNB (fun q => ?_) fun q => ?_
  · simp (disch := first | omega | (simp only [n_alloc, n_put, n_kill, n_allocT, n_tabH, n_less]; omega) | (simp; done) | fail)
    exact Done.nolist (Ext.refl _) (.inr ⟨fun h => by have := hb.2 h; simp_all, rfl⟩)
  · have hg := hb.1 q
    obtain ⟨n, rfl⟩ := Int.eq_ofNat_of_zero_le hg.1.1
    simp (disch := first | omega | (simp only [n_alloc, n_put, n_kill, n_allocT, n_tabH, n_less]; omega) | (simp; done) | fail)
    refine run_pure (tableT_ok n ps hg hl) fun v hv => ?_
    subst hv
    simp (disch := first | omega | (simp only [n_alloc, n_put, n_kill, n_allocT, n_tabH, n_less]; omega) | (simp; done) | fail)
    refine run_pure (numbers_ok n (fr ps) (by have := hg.1; omega)) fun v hv => ?_
    subst hv
    simp (disch := first | omega | (simp only [n_alloc, n_put, n_kill, n_allocT, n_tabH, n_less]; omega) | (simp; done) | fail)
    exact Done.listOk hw (Ext.refl _) (by simp) (.inl ⟨hg, rfl⟩)
theorem specSpouse_ok (n : Int) (ps : List (Int × Int)) (hl : ps.length < 2 ^ 31) : PCall Try.prog 22 [partyT n ps] (AnsSpouse n ps) := by
  refine PCall.run mix Try.func22 (by kernel_rfl) fun w0 H hw => ?_
  simp (disch := first | omega | (simp only [n_alloc, n_put, n_kill, n_allocT, n_tabH, n_less]; omega) | (simp; done) | fail) [Try.f22]
  refine box_f rfl ?_
  simp (disch := first | omega | (simp only [n_alloc, n_put, n_kill, n_allocT, n_tabH, n_less]; omega) | (simp; done) | fail)
  refine run_pureB (haEven_ok n ps hl) fun b hb => ?_
  simp (disch := first | omega | (simp only [n_alloc, n_put, n_kill, n_allocT, n_tabH, n_less]; omega) | (simp; done) | fail)
  refine gB (fun q => ?_) fun q => ?_
  · have hE : EvP n ps := hb.1 q
    obtain ⟨n, rfl⟩ := Int.eq_ofNat_of_zero_le hE.1.1.1
    have h3 := hE.2
    simp (disch := first | omega | (simp only [n_alloc, n_put, n_kill, n_allocT, n_tabH, n_less]; omega) | (simp; done) | fail) [q]
    refine run_pureB (haCouples_ok n ps hE.1 (by omega) (by omega) hl) fun a ha => ?_
    simp (disch := first | omega | (simp only [n_alloc, n_put, n_kill, n_allocT, n_tabH, n_less]; omega) | (simp; done) | fail) [q]
    refine cNB (fun q' => ?_) fun q' => ?_
    · simp (disch := first | omega | (simp only [n_alloc, n_put, n_kill, n_allocT, n_tabH, n_less]; omega) | (simp; done) | fail)
      exact Done.flat (Ext.refl _) rfl (.inr ⟨fun h => by have := ha.2 (by simpa using h.2); simp_all, rfl⟩)
    · simp (disch := first | omega | (simp only [n_alloc, n_put, n_kill, n_allocT, n_tabH, n_less]; omega) | (simp; done) | fail)
      refine run_pure (paNumbers_ok n ps hE.1 hl) fun v hv => ?_
      subst hv
      have hx : (ints (degs n (fr ps)))[1]? = some (.int .i64 (deg n (fr ps) 1)) := by rw [ints_get (by simp; omega), degs_get]
      simp (disch := first | omega | (simp only [n_alloc, n_put, n_kill, n_allocT, n_tabH, n_less]; omega) | (simp; done) | fail) [hx]
      exact Done.flat (Ext.refl _) rfl (.inl ⟨⟨hE, by simpa using ha.1 q'⟩, rfl⟩)
  · simp (disch := first | omega | (simp only [n_alloc, n_put, n_kill, n_allocT, n_tabH, n_less]; omega) | (simp; done) | fail) [q]
    exact Done.flat (Ext.refl _) rfl (.inr ⟨fun h => by have := hb.2 h.1; simp_all, rfl⟩)
/-- Put into their places, one after the other. -/
def putAll (l : List Int) : List Int := l.foldl putZ []
theorem putAll_step {l : List Int} {i : Nat} (h : i < l.length) : putAll (l.take (i + 1)) = putZ (putAll (l.take i)) l[i] := by
  unfold putAll
  rw [List.take_succ_eq_append_getElem h, List.foldl_append]
  rfl
theorem foldl_put (l : List Int) : ∀ acc : List Int, acc.Pairwise (· < ·) → (l.foldl putZ acc).Pairwise (· < ·) ∧ (l.foldl putZ acc).length ≤ acc.length + l.length ∧ ∀ x, x ∈ l.foldl putZ acc ↔ x ∈ acc ∨ x ∈ l := by
  induction l with
  | nil => intro acc h; exact ⟨h, by simp, by simp⟩
  | cons y l ih =>
    intro acc h
    obtain ⟨h1, h2, h3⟩ := ih (putZ acc y) (Pairwise_putZ h)
    have := putZ_len (l := acc) (x := y)
    refine ⟨h1, by simp only [List.foldl_cons, List.length_cons]; omega, fun x => ?_⟩
    simp only [List.foldl_cons, h3, mem_putZ, List.mem_cons]
    grind
theorem putAll_sorted {l : List Int} (hn : l.Nodup) : putAll l = sortedZ l := by
  obtain ⟨h1, h2, h3⟩ := foldl_put l [] List.Pairwise.nil
  have hp : (putAll l).Perm (sortedZ l) := by
    refine List.Perm.trans ?_ (sortedZ_perm l).symm
    unfold putAll
    rw [List.perm_ext_iff_of_nodup (h1.imp fun h => by omega) hn]
    intro x
    have := h3 x
    simpa [putAll] using this
  exact hp.eq_of_pairwise (le := fun x y : Int => decide (x ≤ y) = true) (fun x y _ _ a b => by simp at a b; omega) (h1.imp fun h => by simp; omega) ((sortedZ_pairwise l).imp fun h => by simpa using h)
theorem specTold_ok (n : Int) (ps : List (Int × Int)) (hl : ps.length < 2 ^ 31) : PCall Try.prog 20 [partyT n ps] (AnsTold n ps) := by
  refine PCall.run mix Try.func20 (by kernel_rfl) fun w0 H hw => ?_
  simp (disch := first | omega | (simp only [n_alloc, n_put, n_kill, n_allocT, n_tabH, n_less]; omega) | (simp; done) | fail) [Try.f20]
  refine box_f rfl ?_
  simp (disch := first | omega | (simp only [n_alloc, n_put, n_kill, n_allocT, n_tabH, n_less]; omega) | (simp; done) | fail)
  refine run_pureB (haEven_ok n ps hl) fun b hb => ?_
  simp (disch := first | omega | (simp only [n_alloc, n_put, n_kill, n_allocT, n_tabH, n_less]; omega) | (simp; done) | fail)
  refine gB (fun q => ?_) fun q => ?_
  · have hE : EvP n ps := hb.1 q
    obtain ⟨n, rfl⟩ := Int.eq_ofNat_of_zero_le hE.1.1.1
    have h3 := hE.2
    have hn12 := hE.1.1
    simp (disch := first | omega | (simp only [n_alloc, n_put, n_kill, n_allocT, n_tabH, n_less]; omega) | (simp; done) | fail) [q]
    refine run_pureB (haCouples_ok n ps hE.1 (by omega) (by omega) hl) fun a ha => ?_
    simp (disch := first | omega | (simp only [n_alloc, n_put, n_kill, n_allocT, n_tabH, n_less]; omega) | (simp; done) | fail) [q]
    refine cNB (fun q' => ?_) fun q' => ?_
    · simp (disch := first | omega | (simp only [n_alloc, n_put, n_kill, n_allocT, n_tabH, n_less]; omega) | (simp; done) | fail)
      exact Done.nolist (Ext.refl _) (.inr ⟨fun h => by have := ha.2 (by simpa using h.2); simp_all, rfl⟩)
    · have hC := ha.1 q'
      simp (disch := first | omega | (simp only [n_alloc, n_put, n_kill, n_allocT, n_tabH, n_less]; omega) | (simp; done) | fail)
      refine run_pure (paNumbers_ok n ps hE.1 hl) fun v hv => ?_
      subst hv
      simp (disch := first | omega | (simp only [n_alloc, n_put, n_kill, n_allocT, n_tabH, n_less]; omega) | (simp; done) | fail)
      rw [told_eq]
      have htl := toldL_length n (fr ps)
      simp (disch := first | omega | (simp only [n_alloc, n_put, n_kill, n_allocT, n_tabH, n_less]; omega) | (simp; done) | fail)
      refine run_for (n - 1) (fun i E H2 => H2 = H ∧ E 17 = intsT (toldL n (fr ps)) ∧ E 18 = .int .i64 ((n - 1 : Nat) : Int) ∧ E 19 = .int .i64 i ∧ Rc (E 4) (intsT (putAll ((toldL n (fr ps)).take i)))) 0 (Nat.zero_le _) ?_ ?_
      · simp (disch := first | omega | (simp only [n_alloc, n_put, n_kill, n_allocT, n_tabH, n_less]; omega) | (simp; done) | fail) [htl]
        exact Rc.nil
      · rintro i E H2 hw2 hi ⟨rfl, h17, h18, h19, hrc⟩
        simp (disch := first | omega | (simp only [n_alloc, n_put, n_kill, n_allocT, n_tabH, n_less]; omega) | (simp; done) | fail) [h17, h18, h19]
        refine cP (fun g => ?_) fun g => ?_
        · have hlt : i < (toldL n (fr ps)).length := by omega
          obtain ⟨f1, f2, f3⟩ := foldl_put ((toldL n (fr ps)).take i) [] List.Pairwise.nil
          simp (disch := first | omega | (simp only [n_alloc, n_put, n_kill, n_allocT, n_tabH, n_less]; omega) | (simp; done) | fail) [h17, h18, h19]
          refine run_pure (l1Put_ok (putAll ((toldL n (fr ps)).take i)) (toldL n (fr ps))[i] _ hrc (by simp at f2; unfold putAll; omega) f1) fun v hv => ?_
          subst hv
          simp (disch := first | omega | (simp only [n_alloc, n_put, n_kill, n_allocT, n_tabH, n_less]; omega) | (simp; done) | fail) [h17, h18, h19]
          rw [← putAll_step hlt]
          exact ⟨g, Rc.refl⟩
        · simp (disch := first | omega | (simp only [n_alloc, n_put, n_kill, n_allocT, n_tabH, n_less]; omega) | (simp; done) | fail)
          rw [List.take_of_length_le (by omega), putAll_sorted hC.2] at hrc
          refine Done.mk hw (Ext.refl _) (r := .tuple [intsT (sortedZ (toldL n (fr ps))), .bool true]) (fun hs => Fz.tuple (FzL.cons (Rc.pre hrc (Fz.same hs (under_lst (unders_of_flats _ (flats_ints _))))) (FzL.cons (Fz.flat rfl) FzL.nil))) (.inl ⟨⟨hE, by simpa using hC⟩, by simp⟩)
  · simp (disch := first | omega | (simp only [n_alloc, n_put, n_kill, n_allocT, n_tabH, n_less]; omega) | (simp; done) | fail) [q]
    exact Done.nolist (Ext.refl _) (.inr ⟨fun h => by have := hb.2 h.1; simp_all, rfl⟩)
end Go.Proofs.Ythkmbfifiojmhaa
