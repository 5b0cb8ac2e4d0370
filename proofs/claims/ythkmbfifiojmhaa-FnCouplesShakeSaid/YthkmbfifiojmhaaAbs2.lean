/- What a call leaves, told with numbers of its own choice. -/
import Derived.Test.YthkmbfifiojmhaaAbs1
set_option linter.unusedSimpArgs false
set_option linter.unusedVariables false
namespace Go.Abs
open Go.RowKit

/-- Rows told anew: which old row, and from which of its cells on. -/
abbrev Ren := Nat → Option (Nat × Nat)
def Sig.renM (ρ : Ren) (σ : Sig) : Nat → Option Place := fun b => (ρ b).bind fun x => (σ x.1).map fun p => (p.1, p.2.1 + x.2, p.2.2)
def Sig.ren (w : World) (H1 : Heap) (ρ : Ren) (σ : Sig) : Sig := ⟨Sig.renM ρ σ,
  fun g i ci => World.cellIs w g i ci ∧ ∀ b o p, H1.get b = some o → o.wr = true → Sig.renM ρ σ b = some p → p.1 = g → o.isTail = true ∧ i < p.2.1 ∧ ∃ u, ci = .at u⟩
def FzR (H' H1 : Heap) (ρ : Ren) (v r : AV) : Prop := ∀ w0 σ w u, Sim w0 σ H' w → VR σ v u → VR (Sig.ren w H1 ρ σ) r u
def FzRL (H' H1 : Heap) (ρ : Ren) (v r : List AV) : Prop := ∀ w0 σ w u, Sim w0 σ H' w → VRs σ v u → VRs (Sig.ren w H1 ρ σ) r u
/-- What H' tells is told by H1 with other numbers. -/
structure Told1 (H' H1 : Heap) (n : Nat) (ρ : Ren) : Prop where
  low : ∀ b, b < n → ρ b = some (b, 0)
  dom : ∀ b x, ρ b = some x → b < H1.n
  cells : ∀ b cs wr, H1.get b = some (.cells cs wr) → ∃ b0 off cs0 wr0, ρ b = some (b0, off) ∧ H'.get b0 = some (.cells cs0 wr0) ∧ (wr = true → wr0 = true) ∧ off + cs.length ≤ cs0.length ∧ FzRL H' H1 ρ ((cs0.drop off).take cs.length) cs
  tail : ∀ b, H1.get b = some .tail → ∃ b0, ρ b = some (b0, 0) ∧ H'.get b0 = some .tail
  map : ∀ b es, H1.get b = some (.map es) → ρ b = some (b, 0) ∧ H'.get b = some (.map es) ∧ FzRL H' H1 ρ (es.map (·.1)) (es.map (·.1)) ∧ FzRL H' H1 ρ (es.map (·.2)) (es.map (·.2))
  inj : ∀ b b' o x x', H1.get b = some o → o.wr = true → H1.get b' ≠ none → b ≠ b' → ρ b = some x → ρ b' = some x' → x.1 ≠ x'.1
section
variable {P : Program} {w0 : World} {σ : Sig} {H H' H1 : Heap} {w : World} {n : Nat} {ρ : Ren}
theorem Told1.old (h : Told1 H' H1 n ρ) {b : Nat} {o : AObj} (hb : H1.get b = some o) : ∃ b0 off o0, ρ b = some (b0, off) ∧ H'.get b0 = some o0 ∧ (o.wr = true → o0.wr = true) ∧ (o.isTail = true ↔ o0.isTail = true) ∧ (o.isTail = true → off = 0) := by
  cases o with
  | cells cs wr =>
    obtain ⟨b0, off, cs0, wr0, h1, h2, h3, _⟩ := h.cells b cs wr hb
    exact ⟨b0, off, _, h1, h2, h3, by simp [AObj.isTail], by simp [AObj.isTail]⟩
  | tail =>
    obtain ⟨b0, h1, h2⟩ := h.tail b hb
    exact ⟨b0, 0, _, h1, h2, fun _ => rfl, by simp [AObj.isTail], fun _ => rfl⟩
  | map es =>
    obtain ⟨h1, h2, _⟩ := h.map b es hb
    exact ⟨b, 0, _, h1, h2, fun _ => rfl, by simp [AObj.isTail], by simp [AObj.isTail]⟩
theorem renM_eq {b b0 off : Nat} {p : Place} (h : ρ b = some (b0, off)) (hp : σ b0 = some p) : Sig.renM ρ σ b = some (p.1, p.2.1 + off, p.2.2) := by
  simp only [Sig.renM, h, Option.bind_some, hp, Option.map_some]
theorem Sig.ren_fr (hS : Sim w0 σ H' w) (ht : Told1 H' H1 n ρ) : ∀ g i ci, σ.fr g i ci → (Sig.ren w H1 ρ σ).fr g i ci := fun g i ci h =>
  ⟨hS.fz g i ci h, fun b o p hb hw hp e => by
    obtain ⟨b0, off, o0, h1, h2, h3, h4, h5⟩ := ht.old hb
    obtain ⟨p0, hp0, _⟩ := hS.obj b0 o0 h2
    rw [renM_eq h1 hp0] at hp
    cases hp
    simp only at e
    subst e
    obtain ⟨q1, q2, q3⟩ := hS.own b0 o0 p0 h2 (h3 hw) hp0 i ci h
    exact ⟨h4.2 q1, by simp only; omega, q3⟩⟩
theorem Sig.ren_m (ht : Told1 H' H1 n ρ) : ∀ b x, b < n → σ b = some x → (Sig.ren w H1 ρ σ) b = some x := fun b x hb h => by
  show Sig.renM ρ σ b = _
  rw [renM_eq (ht.low b hb) h]
  rfl
theorem Sim.ren (hS : Sim w0 σ H' w) (ht : Told1 H' H1 n ρ) : Sim w0 (Sig.ren w H1 ρ σ) H1 w := by
  refine ⟨hS.below, fun b x h => ?_, fun b o h => ?_, fun b b' o o' p p' hne h h' hw hp hp' => ?_, fun g i ci h => h.1, fun b o p h hw hp i ci hf => hf.2 b o p h hw hp rfl⟩
  · have h : Sig.renM ρ σ b = some x := h
    simp only [Sig.renM] at h
    obtain ⟨y, hy, _⟩ := Option.bind_eq_some_iff.1 h
    exact ht.dom b y hy
  · cases o with
    | cells cs wr =>
      obtain ⟨b0, off, cs0, wr0, h1, h2, h3, h4, h5⟩ := ht.cells b cs wr h
      obtain ⟨p, hp, ho⟩ := hS.obj b0 _ h2
      obtain ⟨C, t, f, e1, e2, e3, e4, e5⟩ := RowAt.row ho
      refine ⟨_, renM_eq h1 hp, C, t, f, e1, by simp only; omega, e3, ?_, fun hwr => ?_⟩
      · have h6 := (e4.drop off).take cs.length
        rw [List.drop_take, List.take_take, List.drop_drop, Nat.min_eq_left (by omega)] at h6
        exact h5 _ _ _ _ hS h6
      · obtain ⟨q1, q2⟩ := e5 (h3 hwr)
        exact ⟨q1, fun j hj hj' => q2 j (by simp only at hj; omega) hj'⟩
    | tail =>
      obtain ⟨b0, h1, h2⟩ := ht.tail b h
      obtain ⟨p, hp, ho⟩ := hS.obj b0 _ h2
      exact ⟨_, renM_eq h1 hp, ho⟩
    | map es =>
      obtain ⟨h1, h2, h3, h4⟩ := ht.map b es h
      obtain ⟨p, hp, ho⟩ := hS.obj b _ h2
      obtain ⟨E, c, e1, e2, e3, e4⟩ := MapAt.ent ho
      exact ⟨_, renM_eq h1 hp, E, c, e1, e2, h3 _ _ _ _ hS e3, h4 _ _ _ _ hS e4⟩
  · obtain ⟨b0, off, o0, h1, h2, h3, h4, h5⟩ := ht.old h
    obtain ⟨b0', off', o0', h1', h2', h3', h4', h5'⟩ := ht.old h'
    obtain ⟨p0, hp0, _⟩ := hS.obj b0 o0 h2
    obtain ⟨p0', hp0', _⟩ := hS.obj b0' o0' h2'
    have hp : Sig.renM ρ σ b = some p := hp
    have hp' : Sig.renM ρ σ b' = some p' := hp'
    rw [renM_eq h1 hp0] at hp
    rw [renM_eq h1' hp0'] at hp'
    cases hp
    cases hp'
    exact hS.sep b0 b0' o0 o0' p0 p0' (ht.inj b b' o _ _ h hw (by rw [h']; simp) hne h1 h1') h2 h2' (h3 hw) hp0 hp0'
theorem FzR.same {v : AV} (ht : Told1 H' H1 n ρ) (hb : v.under n) : FzR H' H1 ρ v v := fun w0 σ w u hS hv => VR.mono' (fun b x hb h => Sig.ren_m ht b x hb h) (Sig.ren_fr hS ht) v u hb hv
theorem FzRL.same {v : List AV} (ht : Told1 H' H1 n ρ) (hb : unders n v) : FzRL H' H1 ρ v v := fun w0 σ w u hS hv => VRs.mono' (fun b x hb h => Sig.ren_m ht b x hb h) (Sig.ren_fr hS ht) v u hb hv
theorem FzR.flat {v : AV} (hf : v.flat = true) : FzR H' H1 ρ v v := fun w0 σ w u hS hv => VR.flat v u hf hv
theorem FzRL.flat {v : List AV} (hf : flats v = true) : FzRL H' H1 ρ v v := fun w0 σ w u hS hv => VRs.flat v u hf hv
theorem FzRL.nil : FzRL H' H1 ρ [] [] := fun w0 σ w u hS hv => by cases u with | nil => simp only [VRs] | cons _ _ => simp only [VRs] at hv
theorem FzRL.cons {v r : AV} {vs rs : List AV} (h : FzR H' H1 ρ v r) (hs : FzRL H' H1 ρ vs rs) : FzRL H' H1 ρ (v :: vs) (r :: rs) := fun w0 σ w u hS hv => by
  cases u with
  | nil => simp only [VRs] at hv
  | cons x xs => simp only [VRs] at hv ⊢; exact ⟨h w0 σ w x hS hv.1, hs w0 σ w xs hS hv.2⟩
theorem FzR.agg {vs rs : List AV} (h : FzRL H' H1 ρ vs rs) : FzR H' H1 ρ (.agg vs) (.agg rs) := fun w0 σ w u hS hv => by
  simp only [VR] at hv ⊢
  obtain ⟨cs, rfl, hv⟩ := hv
  exact ⟨cs, rfl, h w0 σ w _ hS hv⟩
theorem FzR.tuple {vs rs : List AV} (h : FzRL H' H1 ρ vs rs) : FzR H' H1 ρ (.tuple vs) (.tuple rs) := fun w0 σ w u hS hv => by
  simp only [VR] at hv ⊢
  obtain ⟨cs, rfl, hv⟩ := hv
  exact ⟨cs, rfl, h w0 σ w _ hS hv⟩
theorem FzRL.of_get {vs rs : List AV} (hl : vs.length = rs.length) (h : ∀ (i : Nat) a r, vs[i]? = some a → rs[i]? = some r → FzR H' H1 ρ a r) : FzRL H' H1 ρ vs rs := fun w0 σ w u hS hv =>
  VRs.of_get (by rw [← hl]; exact hv.length) fun i r x hr hx => by
    have hi : i < vs.length := by rw [hv.length]; exact (List.getElem?_eq_some_iff.1 hx).1
    exact h i vs[i] r (List.getElem?_eq_getElem hi) hr w0 σ w x hS (hv.get2 (List.getElem?_eq_getElem hi) hx)
/-- A row that goes on to be written. -/
theorem FzR.row {b b0 off off0 len sz : Nat} {cap : Option Nat} (h : ρ b = some (b0, off)) (hle : off ≤ off0) : FzR H' H1 ρ (.slice (some b0) off0 len sz cap) (.slice (some b) (off0 - off) len sz cap) := fun w0 σ w u hS hv => by
  simp only [VR] at hv ⊢
  obtain ⟨g, k, e, o, c, hσ, rfl, hlc, ho, hc⟩ := hv
  exact ⟨_, _, _, o, c, renM_eq h hσ, rfl, hlc, fun h0 => by have := ho h0; simp only; omega, hc⟩
theorem FzR.nocap {v : AV} {b : Option Nat} {off len sz : Nat} {cap : Option Nat} (h : FzR H' H1 ρ v (.slice b off len sz cap)) (hb : b.isSome = true) : FzR H' H1 ρ v (.slice b off len sz none) := fun w0 σ w u hS hv => by
  have := h w0 σ w u hS hv
  cases b with
  | none => cases hb
  | some b =>
    simp only [VR] at this ⊢
    obtain ⟨g, k, e, o, c, h1, h2, h3, h4, h5⟩ := this
    exact ⟨g, k, e, o, c, h1, h2, h3, h4, fun c' e => by cases e⟩
theorem FzR.lst {tk : Option Nat} {len sz : Nat} {vs rs : List AV} (ht : Told1 H' H1 n ρ) (h : FzRL H' H1 ρ vs rs) : FzR H' H1 ρ (.lst tk len sz vs) (.lst none len sz rs) := fun w0 σ w u hS hv => by
  simp only [VR] at hv ⊢
  obtain ⟨a, c, us, rfl, h1, h2, h3, h4, h5⟩ := hv
  have h3' := h w0 σ w us hS h3
  refine ⟨a, c, us, rfl, h1, by rw [h3'.length, ← h3.length]; exact h2, h3', fun j x hj => ?_, fun b hb => by cases hb⟩
  obtain ⟨g, o, ci, e1, e2, e3⟩ := h4 j x hj
  exact ⟨g, o, ci, e1, e2, Sig.ren_fr hS ht _ _ _ e3⟩
theorem FzR.nil {off s sz : Nat} {cap : Option Nat} : FzR H' H1 ρ (.slice none off 0 s cap) (.lst none 0 sz []) := fun w0 σ w u hS hv => by
  simp only [VR] at hv ⊢
  obtain ⟨_, _, rfl⟩ := hv
  exact ⟨none, 0, [], rfl, Nat.le_refl _, by simp, by simp only [VRs], fun j x hj => by simp at hj, fun b hb => by cases hb⟩
/-- A row that no one writes any more. -/
theorem FzR.tree {b0 off len sz : Nat} {cap : Option Nat} {cs rs : List AV} {wr : Bool} (ht : Told1 H' H1 n ρ) (hb : ∀ b x, H1.get b ≠ none → ρ b = some x → x.1 ≠ b0) (hg : H'.get b0 = some (.cells cs wr)) (hle : off + len * sz ≤ cs.length)
    (h : FzRL H' H1 ρ ((cs.drop off).take (len * sz)) rs) : FzR H' H1 ρ (.slice (some b0) off len sz cap) (.lst none len sz rs) := fun w0 σ w u hS hv => by
  simp only [VR] at hv ⊢
  obtain ⟨g, k, e, o, c, hσ, rfl, hlc, ho, _⟩ := hv
  obtain ⟨p, hp, hrow⟩ := hS.obj b0 _ hg
  rw [hσ] at hp; cases hp
  obtain ⟨C, t, f, r1, r2, r3, r4, r5⟩ := RowAt.row hrow
  simp only at r1 r2 r3 r4
  have h4 := (r4.drop off).take (len * sz)
  rw [List.drop_take, List.take_take, List.drop_drop, Nat.min_eq_left (by omega)] at h4
  have h5 := h w0 σ w _ hS h4
  have h6 := h5.length
  refine ⟨_, c, _, rfl, hlc, ?_, h5, fun j x hj => ?_, fun b hb => by cases hb⟩
  · rw [h6]; simp; omega
  · have hjl := (List.getElem?_eq_some_iff.1 hj).1
    simp only [List.length_take] at hjl
    have hc : 0 < c := by
      rcases Nat.eq_zero_or_pos c with h0 | h0
      · subst h0
        have : len = 0 := by omega
        subst this; simp at hjl
      · exact h0
    obtain ⟨rfl, _⟩ := ho hc
    refine ⟨g, k + off, .at x, rfl, rfl, ⟨C, t, f, r1, ?_⟩, fun b' o' p' hb' hw' hp' he => ?_⟩
    · rw [List.getElem?_take, if_pos (by omega), List.getElem?_drop] at hj
      simpa using hj
    · exfalso
      obtain ⟨b1, off1, o1, q1, q2, q3, _⟩ := ht.old hb'
      obtain ⟨p1, hp1, _⟩ := hS.obj b1 o1 q2
      rw [renM_eq q1 hp1] at hp'
      cases hp'
      exact hS.sep b1 b0 o1 _ p1 _ (hb b' _ (by rw [hb']; simp) q1) q2 hg (q3 hw') hp1 hσ he
/-- A call's end told anew. -/
theorem ACall.ren {f : FuncId} {args : List AV} {K R : AV → Heap → Prop} (h : ACall P w0 f args H K) (hK : ∀ v H', H.wf → H'.wf → (∀ b cs wr, H.get b = some (.cells cs wr) → unders H.n cs) → (∀ b es, H.get b = some (.map es) → unders H.n (es.map (·.1)) ∧ unders H.n (es.map (·.2))) → K v H' → ∃ H1 ρ r, Told1 H' H1 H.n ρ ∧ FzR H' H1 ρ v r ∧ R r H1) :
    ACall P w0 f args H R := by
  intro σ w args' hS ha
  refine (h σ w args' hS ha).mono ?_
  rintro e w' ⟨σ', v, v', H', rfl, hle, hS', hv, hk⟩
  obtain ⟨H1, ρ, r, ht, hz, hr⟩ := hK v H' hS.wf hS'.wf (fun b cs wr hb => (hS.rows_below hb).1 cs wr rfl) (fun b es hb => (hS.rows_below hb).2 es rfl) hk
  refine ⟨Sig.ren w' H1 ρ σ', r, v', H1, rfl, ⟨fun b x hb => ?_, fun g i ci hf => ?_⟩, hS'.ren ht, hz _ _ _ _ hS' hv, hr⟩
  · exact Sig.ren_m ht b x (hS.dom b x hb) (hle.m b x hb)
  · exact Sig.ren_fr hS' ht g i ci (hle.fr g i ci hf)
/-- One new row, the rest as it was. -/
theorem ACall.fresh {f : FuncId} {args : List AV} {K : AV → Heap → Prop} {len sz : Nat} {cs : List AV} (h : ACall P w0 f args H K) (hf : flats cs = true) (hl : cs.length = len * sz)
    (hK : ∀ v H', H.wf → H'.wf → K v H' → Ext H H' ∧ ∃ b off cap, v = .slice (some b) off len sz cap ∧ OwnAt H.n H' (some b) off len sz cap cs ∧ ∃ cs0, H'.get b = some (.cells cs0 true)) :
    ACall P w0 f args H fun v H' => v = .slice (some H.n) 0 len sz none ∧ H' = H.alloc cs := by
  refine h.ren fun v H' hw hw' hu hum hk => ?_
  obtain ⟨he, b, off, cap, rfl, hO, cs0, hg⟩ := hK v H' hw hw' hk
  have hbn : H.n ≤ b := hO.base b rfl
  have hrow : off + cs.length ≤ cs0.length ∧ (cs0.drop off).take cs.length = cs ∨ cs = [] := by
    rcases row_iff.1 hO.toRow with h | ⟨b', cs', wr, e, h2, h3, h4⟩
    · exact .inr h
    · cases e
      rw [hg] at h2
      cases h2
      exact .inl ⟨h3, h4⟩
  have hoff : ∃ off', off' ≤ off ∧ off' + cs.length ≤ cs0.length ∧ (cs0.drop off').take cs.length = cs ∧ (0 < len * sz → off' = off) ∧ off' = off := by
    rcases hrow with ⟨h1, h2⟩ | h
    · exact ⟨off, Nat.le_refl _, h1, h2, fun _ => rfl, rfl⟩
    · subst h
      rcases hO.row with ⟨h1, _⟩ | ⟨b', cs', e, _, _, h3, h4, _⟩
      · cases h1
      · cases e
        rw [hg] at h3
        cases h3
        exact ⟨off, Nat.le_refl _, by simpa using (show off ≤ cs0.length by omega), by simp, fun _ => rfl, rfl⟩
  obtain ⟨off', o1, o2, o3, _, o4⟩ := hoff
  subst o4
  obtain ⟨ρ, hρ⟩ : ∃ ρ : Ren, ρ = fun c => if c < H.n then some (c, 0) else if c = H.n then some (b, off') else none := ⟨_, rfl⟩
  have hlow : ∀ c, c < H.n → ρ c = some (c, 0) := fun c hc => by rw [hρ]; simp [hc]
  have hnew : ρ H.n = some (b, off') := by rw [hρ]; simp
  have ht0 : ∀ c cs wr, H.get c = some (.cells cs wr) → ρ c = some (c, 0) ∧ H'.get c = some (.cells cs wr) := fun c cs wr hc => ⟨hlow c (hw _ _ hc), by rw [he.2 c (hw _ _ hc)]; exact hc⟩
  have hget : ∀ c o, (H.alloc cs).get c = some o → (c = H.n ∧ o = .cells cs true) ∨ (c ≠ H.n ∧ H.get c = some o) := by
    intro c o hc
    by_cases e : c = H.n
    · subst e
      rw [get_alloc_new] at hc
      cases hc
      exact .inl ⟨rfl, rfl⟩
    · rw [get_alloc_old e] at hc
      exact .inr ⟨e, hc⟩
  -- the fields that ask nothing of cells first
  have hsame : ∀ (H1 : Heap) vs, unders H.n vs → (∀ w0 σ w us, Sim w0 σ H' w → VRs σ vs us → (∀ g i ci, σ.fr g i ci → (Sig.ren w H1 ρ σ).fr g i ci) → VRs (Sig.ren w H1 ρ σ) vs us) := fun H1 vs hun w0 σ w us hS hv hfr =>
    VRs.mono' (fun b x hb h => by show Sig.renM ρ σ b = _; rw [renM_eq (hlow b hb) h]; rfl) hfr vs us hun hv
  have hfr : ∀ w0 σ w, Sim w0 σ H' w → ∀ g i ci, σ.fr g i ci → (Sig.ren w (H.alloc cs) ρ σ).fr g i ci := fun w0 σ w hS g i ci h => ⟨hS.fz g i ci h, fun c o p hc hwr hp e => by
    rcases hget c o hc with ⟨rfl, rfl⟩ | ⟨hne, hc⟩
    · obtain ⟨p0, hp0, _⟩ := hS.obj b _ hg
      rw [renM_eq hnew hp0] at hp
      cases hp
      simp only at e; subst e
      have := (hS.own b _ p0 hg rfl hp0 i ci h).1
      cases this
    · have hcn := hw _ _ hc
      have hc' : H'.get c = some o := by rw [he.2 c hcn]; exact hc
      obtain ⟨p0, hp0, _⟩ := hS.obj c _ hc'
      rw [renM_eq (hlow c hcn) hp0] at hp
      cases hp
      simp only at e; subst e
      obtain ⟨q1, q2, q3⟩ := hS.own c _ p0 hc' hwr hp0 i ci h
      exact ⟨q1, by simp only; omega, q3⟩⟩
  have ht : Told1 H' (H.alloc cs) H.n ρ := by
    refine ⟨hlow, fun c x hc => ?_, fun c ds wr hc => ?_, fun c hc => ?_, fun c es hc => ?_, fun c c' o x x' hc hwr hc' hne hx hx' => ?_⟩
    · rw [hρ] at hc
      simp only at hc
      show c < H.n + 1
      split at hc
      · omega
      · split at hc
        · omega
        · cases hc
    · rcases hget c _ hc with ⟨rfl, e⟩ | ⟨hne, hc⟩
      · cases e
        exact ⟨b, off', cs0, true, hnew, hg, fun _ => rfl, o2, by rw [o3]; exact FzRL.flat hf⟩
      · obtain ⟨h1, h2⟩ := ht0 c ds wr hc
        refine ⟨c, 0, ds, wr, h1, h2, id, by omega, fun w0 σ w us hS hv => ?_⟩
        rw [List.drop_zero, List.take_length] at hv
        exact hsame _ ds (hu c ds wr hc) w0 σ w us hS hv (hfr w0 σ w hS)
    · rcases hget c _ hc with ⟨_, e⟩ | ⟨hne, hc⟩
      · cases e
      · exact ⟨c, hlow c (hw _ _ hc), by rw [he.2 c (hw _ _ hc)]; exact hc⟩
    · rcases hget c _ hc with ⟨_, e⟩ | ⟨hne, hc⟩
      · cases e
      · obtain ⟨q1, q2⟩ := hum c es hc
        exact ⟨hlow c (hw _ _ hc), by rw [he.2 c (hw _ _ hc)]; exact hc, fun w0 σ w us hS hv => hsame _ _ q1 w0 σ w us hS hv (hfr w0 σ w hS), fun w0 σ w us hS hv => hsame _ _ q2 w0 σ w us hS hv (hfr w0 σ w hS)⟩
    · have hlt : ∀ d, (H.alloc cs).get d ≠ none → d = H.n ∨ d < H.n := fun d hd => by
        by_cases e : d = H.n
        · exact .inl e
        · rw [get_alloc_old e] at hd
          cases hg' : H.get d with
          | none => exact absurd hg' hd
          | some o' => exact .inr (hw _ _ hg')
      rcases hlt c (by rw [hc]; simp) with rfl | h1 <;> rcases hlt c' hc' with rfl | h2
      · exact absurd rfl hne
      · rw [hnew] at hx; rw [hlow c' h2] at hx'
        cases hx; cases hx'
        simp only; omega
      · rw [hlow c h1] at hx; rw [hnew] at hx'
        cases hx; cases hx'
        simp only; omega
      · rw [hlow c h1] at hx; rw [hlow c' h2] at hx'
        cases hx; cases hx'
        exact hne
  refine ⟨H.alloc cs, ρ, _, ht, (FzR.row (b := H.n) hnew (Nat.le_refl _)).nocap rfl, ?_, rfl⟩
  simp
end
end Go.Abs
