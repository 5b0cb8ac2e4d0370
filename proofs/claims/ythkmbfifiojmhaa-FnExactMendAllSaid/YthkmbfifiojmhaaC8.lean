/- The reference's mending. -/
import Derived.Test.YthkmbfifiojmhaaC7
set_option linter.unusedSimpArgs false
set_option linter.unusedVariables false
set_option maxRecDepth 100000
namespace Go.Proofs.Ythkmbfifiojmhaa
open Go.Abs
variable {w0 : World} {H : Heap}
/-- Mended again and again. -/
inductive Chain (f : Nat → Nat → Bool) (l : List Int) : Nat → List Int → Prop
  | nil : Chain f l 0 l
  | step {k : Nat} {m m' : List Int} (h : Chain f l k m) (h' : MendR f m (some m')) : Chain f l (k + 1) m'
theorem Chain.less {f : Nat → Nat → Bool} {l : List Int} {k : Nat} {m : List Int} (h : Chain f l k m) : strangeL f m + k ≤ strangeL f l := by
  induction h with
  | nil => simp
  | step h h' ih =>
    obtain ⟨i, j, _, _, h3, rfl, _⟩ := h'
    unfold better at h3
    omega
theorem Chain.keeps {f : Nat → Nat → Bool} {l : List Int} {k : Nat} {m : List Int} (h : Chain f l k m) : m.length = l.length ∧ ∀ x ∈ m, x ∈ l := by
  induction h with
  | nil => exact ⟨rfl, fun x hx => hx⟩
  | step h h' ih =>
    obtain ⟨i, j, _, h2, _, rfl, _⟩ := h'
    exact ⟨by rw [turnL_length]; exact ih.1, fun x hx => ih.2 x (turnL_mem _ i j h2 x hx)⟩
/-- All the way. -/
def MendAllR (f : Nat → Nat → Bool) (l : List Int) (k : Nat) (m : List Int) : Prop := Chain f l k m ∧ MendR f m none
theorem Chain.det {f : Nat → Nat → Bool} {l : List Int} {k : Nat} {m m' : List Int} (h : Chain f l k m) (h' : Chain f l k m') : m = m' := by
  induction h generalizing m' with
  | nil => cases h'; rfl
  | step h g ih =>
    cases h' with
    | step h1 g1 =>
      have := ih h1
      subst this
      have := g.unique g1
      exact Option.some.inj this
theorem Chain.prev {f : Nat → Nat → Bool} {l : List Int} {k : Nat} {m : List Int} (h : Chain f l k m) : ∀ j, j < k → ∃ p q, Chain f l j p ∧ MendR f p (some q) := by
  induction h with
  | nil => intro j hj; omega
  | @step k m m' h g ih =>
    intro j hj
    rcases Nat.lt_or_ge j k with hlt | hge
    · exact ih j hlt
    · obtain rfl : j = k := by omega
      exact ⟨m, m', h, g⟩
theorem MendAllR.unique {f : Nat → Nat → Bool} {l : List Int} {k k' : Nat} {m m' : List Int} (h : MendAllR f l k m) (h' : MendAllR f l k' m') : k = k' ∧ m = m' := by
  have key : ∀ {k k' : Nat} {m m' : List Int}, MendAllR f l k m → MendAllR f l k' m' → ¬ k < k' := by
    intro k k' m m' h h' hlt
    obtain ⟨p, q, h1, h2⟩ := h'.1.prev k hlt
    have := h.1.det h1
    subst this
    have := h.2.unique h2
    cases this
  have e : k = k' := by
    have h1 := key h h'
    have h2 := key h' h
    omega
  subst e
  exact ⟨rfl, h.1.det h'.1⟩
theorem Perm.range {n : Int} {l : List Int} (h : Perm n l) : ∀ x ∈ l, 0 ≤ x ∧ x ≤ n - 1 := h.2.1
/-- What the whole answers. -/
def MendSaid (H : Heap) (n0 : Nat) (n : Int) (ps : List (Int × Int)) (a : List Int) (v : AV) : Prop :=
  (¬ (GoodP n ps ∧ Perm n a ∧ 3 ≤ n) ∧ v = .tuple [.slice none 0 0 1 (some 0), .int .i64 0, .bool false]) ∨
  (GoodP n ps ∧ Perm n a ∧ 3 ≤ n) ∧ ∃ vs, ∃ k : Nat, ∃ m, v = .tuple [vs, .int .i64 k, .bool true] ∧ MendAllR (fr ps) a k m ∧ OwnV n0 H vs m.length 1 (ints m)
theorem specMendAll_ok (va vb : AV) (n : Int) (ps : List (Int × Int)) (a : List Int) (hl : ps.length < 2 ^ 31) (hl2 : a.length < 2 ^ 31) (ha : PartyAt H va n ps) (hb : RowV H vb a.length 1 (ints a)) :
    ACall Try.prog w0 6 [va, vb] H fun v H' => Ext H H' ∧ MendSaid H' H.n n ps a v := by
  obtain ⟨ba, oa, ca, rfl, ha⟩ := ha
  obtain ⟨bb, ob, cb, rfl, hb⟩ := hb
  refine ACall.enterW mix Try.func6 (by kernel_rfl) fun hw => ?_
  simp (disch := first | omega | (simp only [n_alloc, n_put, n_kill]; omega) | (simp; done) | fail) [Try.f6]
  refine call_of (taSeats_ok _ _ n ps a hl hl2 ⟨_, _, _, rfl, ha.ext hw (by simp (disch := first | omega | (simp only [n_alloc, n_put, n_kill]; omega) | (simp; done) | fail))⟩ ⟨_, _, _, rfl, hb.ext hw (by simp (disch := first | omega | (simp only [n_alloc, n_put, n_kill]; omega) | (simp; done) | fail))⟩) fun v H1 hw1 ⟨he1, r1, hv, hr1⟩ => ?_
  subst hv
  have hx : Ext H H1 := Ext.trans (by simp (disch := first | omega | (simp only [n_alloc, n_put, n_kill]; omega) | (simp; done) | fail)) he1
  have g0 : H1.get H.n = some (.cells [.int .i64 n, .slice ba oa ps.length 2 ca] true) := by
    rw [he1.2 H.n (by (first | omega | (simp only [n_alloc, n_put, n_kill]; omega)))]
    simp (disch := first | omega | (simp only [n_alloc, n_put, n_kill]; omega) | (simp; done) | fail)
  simp (disch := first | omega | (simp only [n_alloc, n_put, n_kill]; omega) | (simp; done) | fail) [g0]
  refine gB (fun h => ?_) fun h => ?_
  · obtain ⟨hg, hp⟩ := hr1.1 h
    have hpl := hp.1
    simp (disch := first | omega | (simp only [n_alloc, n_put, n_kill]; omega) | (simp; done) | fail) [h]
    refine cP (fun h3 => ?_) fun h3 => ?_
    · simp (disch := first | omega | (simp only [n_alloc, n_put, n_kill]; omega) | (simp; done) | fail)
      refine ⟨hx, .inl ⟨fun q => by omega, rfl⟩⟩
    · simp (disch := first | omega | (simp only [n_alloc, n_put, n_kill]; omega) | (simp; done) | fail) [g0]
      have hn := hg.1
      obtain ⟨m, rfl⟩ : ∃ m : Nat, n = m := ⟨n.toNat, by omega⟩
      refine call_of (paTable_ok _ m ps hg hl ⟨_, _, _, rfl, ha.ext hw hx⟩) fun vt H2 hw2 ⟨he2, hT⟩ => ?_
      have hT' := hT
      obtain ⟨bt, ot, ct, rows, rfl, _⟩ := hT'
      simp (disch := first | omega | (simp only [n_alloc, n_put, n_kill]; omega) | (simp; done) | fail)
      refine call_of (l1Own_ok _ a hl2 ⟨_, _, _, rfl, hb.ext hw (hx.trans he2)⟩) fun vo H3 hw3 ⟨he3, hO⟩ => ?_
      have hx3 : Ext H H3 := hx.trans (he2.trans he3)
      simp (disch := first | omega | (simp only [n_alloc, n_put, n_kill]; omega) | (simp; done) | fail)
      refine run_loop (fun w E H' => ∃ k cur, w = strangeL (fr ps) cur ∧ Chain (fr ps) a k cur ∧ Ext H3 H' ∧ E 7 = .slice bt ot m 1 ct ∧ E 9 = .int .i64 k ∧ OwnV H.n H' (E 8) cur.length 1 (ints cur)) (strangeL (fr ps) a) ?_ ?_
      · simp (disch := first | omega | (simp only [n_alloc, n_put, n_kill]; omega) | (simp; done) | fail)
        obtain ⟨b, off, cap, rfl, hO⟩ := hO
        exact ⟨0, a, rfl, .nil, rfl, (hO.base_le (hx.trans he2).1).v⟩
      · rintro w E H' hw' ⟨k, cur, rfl, hch, he, h7, h9, hOc⟩
        have hkeep := hch.keeps
        have hless := hch.less
        have hsl : strangeL (fr ps) a ≤ a.length := strTo_le ..
        have hcr : RowV H' (E 8) cur.length 1 (ints cur) := hOc.row
        have hTc := (hT.ext hw2 he3).ext hw3 he
        simp (disch := first | omega | (simp only [n_alloc, n_put, n_kill]; omega) | (simp; done) | fail) [h7, h9]
        refine call_of (taMend_ok _ _ m (fr ps) cur (by omega) (fun x hx => hp.2.1 x (hkeep.2 x hx)) hTc hcr) fun v H4 hw4 ⟨he4, vs, ok, hv, hres⟩ => ?_
        subst hv
        simp (disch := first | omega | (simp only [n_alloc, n_put, n_kill]; omega) | (simp; done) | fail) [h7, h9]
        rcases hres with ⟨rfl, hnone⟩ | ⟨m', rfl, hsome, hO'⟩
        · simp (disch := first | omega | (simp only [n_alloc, n_put, n_kill]; omega) | (simp; done) | fail) [h7, h9]
          refine ⟨hx3.trans (he.trans he4), .inr ⟨⟨hg, hp, by omega⟩, _, k, cur, rfl, ⟨hch, hnone⟩, ?_⟩⟩
          obtain ⟨b, off, cap, e8, hO8⟩ := hOc
          rw [e8]
          exact (hO8.keep he4.keep (.inl rfl)).v
        · have hb : strangeL (fr ps) m' < strangeL (fr ps) cur := by
            obtain ⟨i, j, _, _, h3, rfl, _⟩ := hsome
            exact h3
          simp (disch := first | omega | (simp only [n_alloc, n_put, n_kill]; omega) | (simp; done) | fail) [h7, h9]
          refine ⟨_, hb, k + 1, m', rfl, .step hch hsome, he.trans he4, by simp, ?_⟩
          obtain ⟨b, off, cap, rfl, hO8⟩ := hO'
          exact (hO8.base_le (hx3.trans he).1).v
  · simp (disch := first | omega | (simp only [n_alloc, n_put, n_kill]; omega) | (simp; done) | fail) [h]
    refine ⟨hx, .inl ⟨fun q => ?_, rfl⟩⟩
    have := hr1.2 ⟨q.1, q.2.1⟩
    rw [h] at this
    cases this
end Go.Proofs.Ythkmbfifiojmhaa
