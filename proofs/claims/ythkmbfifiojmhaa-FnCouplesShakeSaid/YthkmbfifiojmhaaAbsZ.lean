/- Calls that leave the memory as it is told: what they made is frozen and forgotten; rows seen for the time of a call. -/
import Derived.Test.YthkmbfifiojmhaaAbsY
set_option linter.unusedSimpArgs false
set_option linter.unusedVariables false
namespace Go.Abs
open Go.RowKit

/- All rows named lie below n. -/
mutual
def AV.under (n : Nat) : AV → Prop
  | .ptr (some b) _ => b < n
  | .slice (some b) _ _ _ _ => b < n
  | .map (some b) => b < n
  | .lst tk _ _ cs => (∀ b, tk = some b → b < n) ∧ unders n cs
  | .fptr cs => unders n cs
  | .func _ fs cs => unders n fs ∧ unders n cs
  | .agg cs => unders n cs
  | .tuple cs => unders n cs
  | _ => True
def unders (n : Nat) : List AV → Prop
  | [] => True
  | a :: as => AV.under n a ∧ unders n as
end
/- No slice, no pointer. -/
mutual
def AV.flat : AV → Bool
  | .bool _ | .int _ _ | .str _ | .nilFunc | .nilIface | .undef => true
  | .slice none _ _ _ _ => true
  | .agg cs => flats cs
  | .tuple cs => flats cs
  | _ => false
def flats : List AV → Bool
  | [] => true
  | a :: as => AV.flat a && flats as
end
section
variable {σ τ : Sig} {n : Nat}
mutual
theorem VR.under (hd : ∀ b x, σ b = some x → b < n) : ∀ (a : AV) (v : Value), VR σ a v → a.under n
  | .bool _, _, _ => by simp only [AV.under]
  | .int _ _, _, _ => by simp only [AV.under]
  | .str _, _, _ => by simp only [AV.under]
  | .ptr none _, _, _ => by simp only [AV.under]
  | .ptr (some b) off, v, hv => by
    simp only [VR] at hv
    obtain ⟨g, k, e, hs, _⟩ := hv
    simp only [AV.under]; exact hd _ _ hs
  | .slice none _ _ _ _, _, _ => by simp only [AV.under]
  | .slice (some b) off len sz cap, v, hv => by
    simp only [VR] at hv
    obtain ⟨g, k, e, o, c, hs, _⟩ := hv
    simp only [AV.under]; exact hd _ _ hs
  | .map none, _, _ => by simp only [AV.under]
  | .map (some b), v, hv => by
    simp only [VR] at hv
    obtain ⟨g, k, e, hs, _⟩ := hv
    simp only [AV.under]; exact hd _ _ hs
  | .func fn fs cs, v, hv => by
    simp only [VR] at hv
    obtain ⟨fs', cs', _, h1, h2⟩ := hv
    simp only [AV.under]; exact ⟨VRs.under hd fs _ h1, VRs.under hd cs _ h2⟩
  | .nilFunc, _, _ => by simp only [AV.under]
  | .nilIface, _, _ => by simp only [AV.under]
  | .lst tk len sz cs, v, hv => by
    simp only [VR] at hv
    obtain ⟨a, c, vs, _, _, _, h3, _, h5⟩ := hv
    simp only [AV.under]
    refine ⟨fun b hb => ?_, VRs.under hd cs vs h3⟩
    obtain ⟨_, _, _, h7⟩ := h5 b hb
    exact hd _ _ h7
  | .fptr cs, v, hv => by
    simp only [VR] at hv
    obtain ⟨_, _, vs, _, h3, _⟩ := hv
    simp only [AV.under]; exact VRs.under hd cs vs h3
  | .agg cs, v, hv => by
    simp only [VR] at hv
    obtain ⟨cs', _, h1⟩ := hv
    simp only [AV.under]; exact VRs.under hd cs _ h1
  | .tuple cs, v, hv => by
    simp only [VR] at hv
    obtain ⟨cs', _, h1⟩ := hv
    simp only [AV.under]; exact VRs.under hd cs _ h1
  | .undef, _, _ => by simp only [AV.under]
theorem VRs.under (hd : ∀ b x, σ b = some x → b < n) : ∀ (as : List AV) (vs : List Value), VRs σ as vs → unders n as
  | [], _, _ => by simp only [unders]
  | a :: as, v :: vs, hv => by
    simp only [VRs] at hv
    simp only [unders]
    exact ⟨VR.under hd a v hv.1, VRs.under hd as vs hv.2⟩
  | _ :: _, [], hv => by simp only [VRs] at hv
end
mutual
theorem VR.mono' (hm : ∀ b x, b < n → σ b = some x → τ b = some x) (hf : ∀ g i ci, σ.fr g i ci → τ.fr g i ci) : ∀ (a : AV) (v : Value), a.under n → VR σ a v → VR τ a v
  | .bool _, _, _, hv => hv
  | .int _ _, _, _, hv => hv
  | .str _, _, _, hv => hv
  | .ptr none _, _, _, hv => hv
  | .ptr (some b) off, v, hb, hv => by
    simp only [VR] at hv ⊢
    simp only [AV.under] at hb
    obtain ⟨g, k, e, hs, rfl⟩ := hv
    exact ⟨g, k, e, hm _ _ hb hs, rfl⟩
  | .slice none _ _ _ _, _, _, hv => hv
  | .slice (some b) off len sz cap, v, hb, hv => by
    simp only [VR] at hv ⊢
    simp only [AV.under] at hb
    obtain ⟨g, k, e, o, c, hs, hr⟩ := hv
    exact ⟨g, k, e, o, c, hm _ _ hb hs, hr⟩
  | .map none, _, _, hv => hv
  | .map (some b), v, hb, hv => by
    simp only [VR] at hv ⊢
    simp only [AV.under] at hb
    obtain ⟨g, k, e, hs, rfl⟩ := hv
    exact ⟨g, k, e, hm _ _ hb hs, rfl⟩
  | .func fn fs cs, v, hb, hv => by
    simp only [VR] at hv ⊢
    simp only [AV.under] at hb
    obtain ⟨fs', cs', rfl, h1, h2⟩ := hv
    exact ⟨fs', cs', rfl, VRs.mono' hm hf fs _ hb.1 h1, VRs.mono' hm hf cs _ hb.2 h2⟩
  | .nilFunc, _, _, hv => hv
  | .nilIface, _, _, hv => hv
  | .lst tk len sz cs, v, hb, hv => by
    simp only [VR] at hv ⊢
    simp only [AV.under] at hb
    obtain ⟨a, c, vs, rfl, h1, h2, h3, h4, h5⟩ := hv
    refine ⟨a, c, vs, rfl, h1, h2, VRs.mono' hm hf cs vs hb.2 h3, fun j u hj => ?_, fun b hb' => ?_⟩
    · obtain ⟨g, o, ci, e1, e2, e3⟩ := h4 j u hj
      exact ⟨g, o, ci, e1, e2, hf _ _ _ e3⟩
    · obtain ⟨g, o, h6, h7⟩ := h5 b hb'
      exact ⟨g, o, h6, hm _ _ (hb.1 b hb') h7⟩
  | .fptr cs, v, hb, hv => by
    simp only [VR] at hv ⊢
    simp only [AV.under] at hb
    obtain ⟨g, o, vs, rfl, h3, h4⟩ := hv
    refine ⟨g, o, vs, rfl, VRs.mono' hm hf cs vs hb h3, fun j u hj => ?_⟩
    obtain ⟨g, o, ci, e1, e2, e3⟩ := h4 j u hj
    exact ⟨g, o, ci, e1, e2, hf _ _ _ e3⟩
  | .agg cs, v, hb, hv => by
    simp only [VR] at hv ⊢
    simp only [AV.under] at hb
    obtain ⟨cs', rfl, h1⟩ := hv
    exact ⟨cs', rfl, VRs.mono' hm hf cs _ hb h1⟩
  | .tuple cs, v, hb, hv => by
    simp only [VR] at hv ⊢
    simp only [AV.under] at hb
    obtain ⟨cs', rfl, h1⟩ := hv
    exact ⟨cs', rfl, VRs.mono' hm hf cs _ hb h1⟩
  | .undef, _, _, _ => by simp only [VR]
theorem VRs.mono' (hm : ∀ b x, b < n → σ b = some x → τ b = some x) (hf : ∀ g i ci, σ.fr g i ci → τ.fr g i ci) : ∀ (as : List AV) (vs : List Value), unders n as → VRs σ as vs → VRs τ as vs
  | [], [], _, _ => by simp only [VRs]
  | a :: as, v :: vs, hb, hv => by
    simp only [VRs] at hv ⊢
    simp only [unders] at hb
    exact ⟨VR.mono' hm hf a v hb.1 hv.1, VRs.mono' hm hf as vs hb.2 hv.2⟩
  | [], _ :: _, _, hv => by simp only [VRs] at hv
  | _ :: _, [], _, hv => by simp only [VRs] at hv
end
mutual
theorem VR.flat : ∀ (a : AV) (v : Value), a.flat = true → VR σ a v → VR τ a v
  | .bool _, _, _, hv => hv
  | .int _ _, _, _, hv => hv
  | .str _, _, _, hv => hv
  | .ptr _ _, _, hb, _ => by simp [AV.flat] at hb
  | .slice none _ _ _ _, _, _, hv => hv
  | .slice (some b) off len sz cap, v, hb, hv => by simp [AV.flat] at hb
  | .map _, _, hb, _ => by simp [AV.flat] at hb
  | .func fn fs cs, v, hb, hv => by simp [AV.flat] at hb
  | .nilFunc, _, _, hv => hv
  | .nilIface, _, _, hv => hv
  | .lst tk len sz cs, v, hb, hv => by simp [AV.flat] at hb
  | .fptr cs, v, hb, hv => by simp [AV.flat] at hb
  | .agg cs, v, hb, hv => by
    simp only [VR] at hv ⊢
    simp only [AV.flat] at hb
    obtain ⟨cs', rfl, h1⟩ := hv
    exact ⟨cs', rfl, VRs.flat cs _ hb h1⟩
  | .tuple cs, v, hb, hv => by
    simp only [VR] at hv ⊢
    simp only [AV.flat] at hb
    obtain ⟨cs', rfl, h1⟩ := hv
    exact ⟨cs', rfl, VRs.flat cs _ hb h1⟩
  | .undef, _, _, _ => by simp only [VR]
theorem VRs.flat : ∀ (as : List AV) (vs : List Value), flats as = true → VRs σ as vs → VRs τ as vs
  | [], [], _, _ => by simp only [VRs]
  | a :: as, v :: vs, hb, hv => by
    simp only [VRs] at hv ⊢
    simp only [flats, Bool.and_eq_true] at hb
    exact ⟨VR.flat a v hb.1 hv.1, VRs.flat as vs hb.2 hv.2⟩
  | [], _ :: _, _, hv => by simp only [VRs] at hv
  | _ :: _, [], _, hv => by simp only [VRs] at hv
end
end

/-- Fewer rows told, nothing else. -/
structure Sub (H0 H : Heap) : Prop where
  n : H0.n ≤ H.n
  get : ∀ b o, H0.get b = some o → H.get b = some o ∧ b < H0.n
/-- All is frozen but what these rows may write. -/
def Sig.max (w : World) (H : Heap) (σ : Sig) : Sig := ⟨fun b => if b < H.n then σ b else none,
  fun g i ci => World.cellIs w g i ci ∧ ∀ b o p, H.get b = some o → o.wr = true → σ b = some p → p.1 = g → o.isTail = true ∧ i < p.2.1 ∧ ∃ u, ci = .at u⟩
section
variable {P : Program} {w0 : World} {σ : Sig} {H H' H0 : Heap} {w : World}
theorem Sig.max_fr (hS : Sim w0 σ H w) (hs : Sub H0 H) : ∀ g i ci, σ.fr g i ci → (Sig.max w H0 σ).fr g i ci := fun g i ci h =>
  ⟨hS.fz g i ci h, fun b o p hb hw hp e => by subst e; exact hS.own b o p (hs.get b o hb).1 hw hp i ci h⟩
theorem Sig.max_m (n : Nat) (hn : n ≤ H0.n) : ∀ b x, b < n → σ b = some x → (Sig.max w H0 σ) b = some x := fun b x hb h => by
  simp only [Sig.max]
  rw [if_pos (by omega)]
  exact h
theorem Sim.cut (hS : Sim w0 σ H w) (hs : Sub H0 H) (hb : ∀ b o, H0.get b = some o → (∀ cs wr, o = .cells cs wr → unders H0.n cs) ∧ (∀ es, o = .map es → unders H0.n (es.map (·.1)) ∧ unders H0.n (es.map (·.2)))) : Sim w0 (Sig.max w H0 σ) H0 w := by
  refine ⟨hS.below, fun b x h => ?_, fun b o h => ?_, fun b b' o o' p p' hne h h' hw hp hp' => ?_, fun g i ci h => h.1, fun b o p h hw hp i ci hf => ?_⟩
  · simp only [Sig.max] at h
    split at h
    · assumption
    · cases h
  · obtain ⟨h1, h2⟩ := hs.get b o h
    obtain ⟨p, hp, ho⟩ := hS.obj b o h1
    refine ⟨p, Sig.max_m H0.n (Nat.le_refl _) _ _ h2 hp, ?_⟩
    cases o with
    | cells cs wr =>
      obtain ⟨C, t, f, e1, e2, e3, e4, e5⟩ := RowAt.row ho
      exact ⟨C, t, f, e1, e2, e3, VRs.mono' (Sig.max_m _ (Nat.le_refl _)) (Sig.max_fr hS hs) _ _ ((hb b _ h).1 _ _ rfl) e4, e5⟩
    | tail => exact ho
    | map es =>
      obtain ⟨E, c, e1, e2, e3, e4⟩ := MapAt.ent ho
      have := (hb b _ h).2 _ rfl
      exact ⟨E, c, e1, e2, VRs.mono' (Sig.max_m _ (Nat.le_refl _)) (Sig.max_fr hS hs) _ _ this.1 e3, VRs.mono' (Sig.max_m _ (Nat.le_refl _)) (Sig.max_fr hS hs) _ _ this.2 e4⟩
  · obtain ⟨h1, h2⟩ := hs.get b o h
    obtain ⟨h3, h4⟩ := hs.get b' o' h'
    simp only [Sig.max] at hp hp'
    rw [if_pos h2] at hp
    rw [if_pos h4] at hp'
    exact hS.sep b b' o o' p p' hne h1 h3 hw hp hp'
  · obtain ⟨h1, h2⟩ := hs.get b o h
    simp only [Sig.max] at hp
    rw [if_pos h2] at hp
    exact hf.2 b o p h hw hp rfl
/-- What a row told holds names rows below, as all do. -/
theorem Sim.rows_below (hS : Sim w0 σ H w) {b : Nat} {o : AObj} (h : H.get b = some o) : (∀ cs wr, o = .cells cs wr → unders H.n cs) ∧ (∀ es, o = .map es → unders H.n (es.map (·.1)) ∧ unders H.n (es.map (·.2))) := by
  obtain ⟨p, hp, ho⟩ := hS.obj b o h
  refine ⟨fun cs wr e => ?_, fun es e => ?_⟩
  · subst e
    obtain ⟨C, t, f, e1, e2, e3, e4, e5⟩ := RowAt.row ho
    exact VRs.under hS.dom _ _ e4
  · subst e
    obtain ⟨E, c, e1, e2, e3, e4⟩ := MapAt.ent ho
    exact ⟨VRs.under hS.dom _ _ e3, VRs.under hS.dom _ _ e4⟩

/-- A value of one heap as it is told where only the rows of another are left. -/
def Fz (H' H : Heap) (v r : AV) : Prop := ∀ w0 σ w u, Sim w0 σ H' w → VR σ v u → VR (Sig.max w H σ) r u
def FzL (H' H : Heap) (v r : List AV) : Prop := ∀ w0 σ w u, Sim w0 σ H' w → VRs σ v u → VRs (Sig.max w H σ) r u
theorem Fz.same {v : AV} (hs : Sub H H') (hb : v.under H.n) : Fz H' H v v := fun w0 σ w u hS hv => VR.mono' (Sig.max_m _ (Nat.le_refl _)) (Sig.max_fr hS hs) v u hb hv
theorem FzL.same {v : List AV} (hs : Sub H H') (hb : unders H.n v) : FzL H' H v v := fun w0 σ w u hS hv => VRs.mono' (Sig.max_m _ (Nat.le_refl _)) (Sig.max_fr hS hs) v u hb hv
theorem Fz.flat {v : AV} (hf : v.flat = true) : Fz H' H v v := fun w0 σ w u hS hv => VR.flat v u hf hv
theorem FzL.flat {v : List AV} (hf : flats v = true) : FzL H' H v v := fun w0 σ w u hS hv => VRs.flat v u hf hv
theorem FzL.nil : FzL H' H [] [] := fun w0 σ w u hS hv => by cases u with | nil => simp only [VRs] | cons _ _ => simp only [VRs] at hv
theorem FzL.cons {v r : AV} {vs rs : List AV} (h : Fz H' H v r) (hs : FzL H' H vs rs) : FzL H' H (v :: vs) (r :: rs) := fun w0 σ w u hS hv => by
  cases u with
  | nil => simp only [VRs] at hv
  | cons x xs => simp only [VRs] at hv ⊢; exact ⟨h w0 σ w x hS hv.1, hs w0 σ w xs hS hv.2⟩
theorem Fz.agg {vs rs : List AV} (h : FzL H' H vs rs) : Fz H' H (.agg vs) (.agg rs) := fun w0 σ w u hS hv => by
  simp only [VR] at hv ⊢
  obtain ⟨cs, rfl, hv⟩ := hv
  exact ⟨cs, rfl, h w0 σ w _ hS hv⟩
theorem Fz.tuple {vs rs : List AV} (h : FzL H' H vs rs) : Fz H' H (.tuple vs) (.tuple rs) := fun w0 σ w u hS hv => by
  simp only [VR] at hv ⊢
  obtain ⟨cs, rfl, hv⟩ := hv
  exact ⟨cs, rfl, h w0 σ w _ hS hv⟩
theorem FzL.map {α : Type} {f g : α → AV} : ∀ {l : List α}, (∀ x ∈ l, Fz H' H (f x) (g x)) → FzL H' H (l.map f) (l.map g)
  | [], _ => FzL.nil
  | x :: l, h => FzL.cons (h x (by simp)) (FzL.map fun y hy => h y (by simp [hy]))
theorem VR.len {a : AV} {u : Value} {tk : Option Nat} {len sz : Nat} {cs : List AV} (h : VR σ a u) (e : a = .lst tk len sz cs) : cs.length = len * sz := by
  subst e; simp only [VR] at h; obtain ⟨_, _, _, _, _, h, _⟩ := h; exact h
theorem Fz.lst {tk : Option Nat} {len sz : Nat} {vs rs : List AV} (hs : Sub H H') (h : FzL H' H vs rs) : Fz H' H (.lst tk len sz vs) (.lst none len sz rs) := fun w0 σ w u hS hv => by
  simp only [VR] at hv ⊢
  obtain ⟨a, c, us, rfl, h1, h2, h3, h4, h5⟩ := hv
  have h3' := h w0 σ w us hS h3
  refine ⟨a, c, us, rfl, h1, by rw [h3'.length, ← h3.length]; exact h2, h3', fun j x hj => ?_, fun b hb => by cases hb⟩
  obtain ⟨g, o, ci, e1, e2, e3⟩ := h4 j x hj
  exact ⟨g, o, ci, e1, e2, Sig.max_fr hS hs _ _ _ e3⟩
theorem Fz.nil {off s sz : Nat} {cap : Option Nat} : Fz H' H (.slice none off 0 s cap) (.lst none 0 sz []) := fun w0 σ w u hS hv => by
  simp only [VR] at hv ⊢
  obtain ⟨_, _, rfl⟩ := hv
  exact ⟨none, 0, [], rfl, Nat.le_refl _, by simp, by simp only [VRs], fun j x hj => by simp at hj, fun b hb => by cases hb⟩
theorem Fz.row {b off len sz : Nat} {cap : Option Nat} {cs rs : List AV} {wr : Bool} (hs : Sub H H') (hb : H.get b = none) (hg : H'.get b = some (.cells cs wr)) (hle : off + len * sz ≤ cs.length)
    (h : FzL H' H ((cs.drop off).take (len * sz)) rs) : Fz H' H (.slice (some b) off len sz cap) (.lst none len sz rs) := fun w0 σ w u hS hv => by
  simp only [VR] at hv ⊢
  obtain ⟨g, k, e, o, c, hσ, rfl, hlc, ho, _⟩ := hv
  obtain ⟨p, hp, hrow⟩ := hS.obj b _ hg
  rw [hσ] at hp; cases hp
  obtain ⟨C, t, f, r1, r2, r3, r4, r5⟩ := RowAt.row hrow
  simp only at r1 r2 r3 r4
  have h4 := (r4.drop off).take (len * sz)
  rw [List.drop_take, List.take_take, List.drop_drop, Nat.min_eq_left (by omega)] at h4
  have h5 := h w0 σ w _ hS h4
  have h6 := h5.length
  have h7 := h4.length
  refine ⟨_, c, _, rfl, hlc, ?_, h5, fun j x hj => ?_, fun b hb => by cases hb⟩
  · rw [h6]; simp; omega
  · have hjl := (List.getElem?_eq_some_iff.1 hj).1
    simp only [List.length_take] at hjl
    have hc : 0 < c := by
      rcases Nat.eq_zero_or_pos c with h0 | h0
      · subst h0
        have : len = 0 := by omega
        subst this; simp at hjl
      · exact h0
    obtain ⟨rfl, _⟩ := ho hc
    refine ⟨g, k + off, .at x, rfl, rfl, ⟨C, t, f, r1, ?_⟩, fun b' o' p' hb' hw hp' he => ?_⟩
    · rw [List.getElem?_take, if_pos (by omega), List.getElem?_drop] at hj
      simpa using hj
    · exfalso
      obtain ⟨q1, q2⟩ := hs.get b' o' hb'
      refine hS.sep b' b o' _ p' _ (fun e => ?_) q1 hg hw hp' hσ he
      subst e
      rw [hb] at hb'
      cases hb'
theorem Ext.sub (h : Ext H H') (hw : H.wf) : Sub H H' := ⟨h.1, fun b o hb => ⟨by rw [h.2 b (hw b o hb)]; exact hb, hw b o hb⟩⟩

/-- A call of which only trees come back leaves the memory as it was told. -/
theorem ACall.pure {f : FuncId} {args : List AV} {K : AV → Heap → Prop} {R : AV → Prop} (h : ACall P w0 f args H K) (hK : ∀ v H', H.wf → H'.wf → K v H' → Ext H H' ∧ ∃ r, Fz H' H v r ∧ R r) :
    ACall P w0 f args H fun v H' => R v ∧ H' = H := by
  intro σ w args' hS ha
  refine (h σ w args' hS ha).mono ?_
  rintro e w' ⟨σ', v, v', H', rfl, hle, hS', hv, hk⟩
  obtain ⟨hE, r, hz, hr⟩ := hK v H' hS.wf hS'.wf hk
  have hs := hE.sub hS.wf
  refine ⟨Sig.max w' H σ', r, v', H, rfl, ⟨fun b x hb => ?_, fun g i ci hf => ?_⟩, hS'.cut hs fun b o hb => hS.rows_below hb, hz _ _ _ _ hS' hv, hr, rfl⟩
  · exact Sig.max_m H.n (Nat.le_refl _) b x (hS.dom b x hb) (hle.m b x hb)
  · exact Sig.max_fr hS' hs g i ci (hle.fr g i ci hf)
/-- Rows that no one needs any more are handed on as what they hold. -/
theorem ACall.frz {f : FuncId} {args args' : List AV} {K : AV → Heap → Prop} (hs : Sub H0 H) (hn : H0.n = H.n) (h : ACall P w0 f args' H0 K) (ha : FzL H H0 args args') : ACall P w0 f args H K := by
  intro σ w as hS has
  have hS0 : Sim w0 (Sig.max w H0 σ) H0 w := hS.cut hs fun b o hb => by rw [hn]; exact hS.rows_below (hs.get b o hb).1
  refine (h _ w as hS0 (ha _ _ _ _ hS has)).mono ?_
  rintro e w' ⟨σ', v, v', H', rfl, hle, hS', hv, hk⟩
  refine ⟨σ', v, v', H', rfl, Sig.le_trans ⟨fun b x hb => ?_, fun g i ci hf => ?_⟩ hle, hS', hv, hk⟩
  · exact Sig.max_m H0.n (Nat.le_refl _) b x (by rw [hn]; exact hS.dom b x hb) hb
  · exact Sig.max_fr hS hs g i ci hf
/-- No row at all. -/
def nix (n : Nat) : Heap := ⟨n, fun _ => none⟩
theorem nix_sub : Sub (nix H.n) H := ⟨Nat.le_refl _, fun b o h => by cases h⟩
/-- Rows seen for the time of a call. -/
theorem ACall.view {f : FuncId} {args args' : List AV} {R : AV → Prop} (h : ACall P w0 f args' (nix H.n) fun v H' => R v ∧ H' = nix H.n) (ha : FzL H (nix H.n) args args') (hR : ∀ v, R v → v.flat = true) :
    ACall P w0 f args H fun v H' => R v ∧ H' = H := by
  intro σ w as hS has
  have hS0 : Sim w0 (Sig.max w (nix H.n) σ) (nix H.n) w := hS.cut nix_sub fun b o hb => by cases hb
  refine (h _ w as hS0 (ha _ _ _ _ hS has)).mono ?_
  rintro e w' ⟨σ', v, v', H', rfl, hle, hS', hv, hr, rfl⟩
  have hblk : ∀ g, g < w.heap.size → w'.heap[g]? = w.heap[g]? := fun g hg => by
    have h1 : (Sig.max w (nix H.n) σ).fr g 0 (.all w.heap[g]) := ⟨by show w.heap[g]? = _; simp [hg], fun b o p hb => by cases hb⟩
    have h2 : w'.heap[g]? = some w.heap[g] := hS'.fz g 0 _ (hle.fr _ _ _ h1)
    rw [h2]; simp [hg]
  have hsz : w.heap.size ≤ w'.heap.size := by
    rcases Nat.eq_zero_or_pos w.heap.size with h0 | h0
    · omega
    · have h1 := hblk (w.heap.size - 1) (by omega)
      have := (Array.getElem?_eq_some_iff.1 (h1.trans (Array.getElem?_eq_getElem (by omega)))).1
      omega
  have hb : Below w.heap.size w w' := ⟨hS'.below.os.trans hS.below.os.symm, hS'.below.tape.trans hS.below.tape.symm, hS'.below.output.trans hS.below.output.symm, hsz, hblk⟩
  exact ⟨σ, v, v', H, rfl, Sig.le_refl _, hS.later hb, VR.flat v v' (hR v hr) hv, hr, rfl⟩

/-- A call with trees and of trees. -/
def PCall (P : Program) (f : FuncId) (args : List AV) (R : AV → Prop) : Prop := ∀ w0 H, ACall P w0 f args H fun v H' => R v ∧ H' = H
theorem PCall.mono {f : FuncId} {args : List AV} {R R' : AV → Prop} (h : PCall P f args R) (hr : ∀ v, R v → R' v) : PCall P f args R' := fun w0 H => (h w0 H).mono fun v H' hh => ⟨hr v hh.1, hh.2⟩
theorem PCall.of {f : FuncId} {args : List AV} {R : AV → Prop} (h : ∀ w0 H, H.wf → ACall P w0 f args H fun v H' => Ext H H' ∧ ∃ r, Fz H' H v r ∧ R r) : PCall P f args R := fun w0 H =>
  (ACall.wf fun hw => h w0 H hw).pure fun v H' _ _ hh => hh
/-- Told with less. -/
def Rc (a a' : AV) : Prop := ∀ σ u, VR σ a u → VR σ a' u
def Rcs (a a' : List AV) : Prop := ∀ σ u, VRs σ a u → VRs σ a' u
theorem Rc.refl {a : AV} : Rc a a := fun _ _ h => h
theorem Rcs.refl {a : List AV} : Rcs a a := fun _ _ h => h
theorem Rcs.nil : Rcs [] [] := Rcs.refl
theorem Rcs.cons {a a' : AV} {as as' : List AV} (h : Rc a a') (hs : Rcs as as') : Rcs (a :: as) (a' :: as') := fun σ u hu => by
  cases u with
  | nil => simp only [VRs] at hu
  | cons x xs => simp only [VRs] at hu ⊢; exact ⟨h σ x hu.1, hs σ xs hu.2⟩
theorem Rc.lst {tk : Option Nat} {len sz : Nat} {cs cs' : List AV} (h : Rcs cs cs') : Rc (.lst tk len sz cs) (.lst none len sz cs') := fun σ u hv => by
  simp only [VR] at hv ⊢
  obtain ⟨a, c, us, rfl, h1, h2, h3, h4, h5⟩ := hv
  have h6 := h σ us h3
  exact ⟨a, c, us, rfl, h1, by rw [h6.length, ← h3.length]; exact h2, h6, h4, fun b hb => by cases hb⟩
theorem Rc.tok {tk : Option Nat} {len sz : Nat} {cs : List AV} : Rc (.lst tk len sz cs) (.lst none len sz cs) := Rc.lst Rcs.refl
theorem Rc.nil {off s sz : Nat} {cap : Option Nat} : Rc (.slice none off 0 s cap) (.lst none 0 sz []) := fun σ u hv => by
  simp only [VR] at hv ⊢
  obtain ⟨_, _, rfl⟩ := hv
  exact ⟨none, 0, [], rfl, Nat.le_refl _, by simp, by simp only [VRs], fun j x hj => by simp at hj, fun b hb => by cases hb⟩
theorem Rc.agg {cs cs' : List AV} (h : Rcs cs cs') : Rc (.agg cs) (.agg cs') := fun σ u hv => by
  simp only [VR] at hv ⊢
  obtain ⟨us, rfl, hv⟩ := hv
  exact ⟨us, rfl, h σ _ hv⟩
theorem Rc.fz {v r r' : AV} (h : Fz H' H v r) (hr : Rc r r') : Fz H' H v r' := fun w0 σ w u hS hv => hr _ _ (h w0 σ w u hS hv)
theorem Rc.pre {v v' r : AV} (hr : Rc v v') (h : Fz H' H v' r) : Fz H' H v r := fun w0 σ w u hS hv => h w0 σ w u hS (hr _ _ hv)
section
variable {f : FuncId} {args args' : List AV} {R : AV → Prop} {K : AV → Heap → Prop}
theorem run_pure (h : PCall P f args R) (hk : ∀ v, R v → Run (K v H)) : ACall P w0 f args H K := (h w0 H).mono fun v H' ⟨h1, h2⟩ => by subst h2; exact hk v h1
theorem run_pureR (h : PCall P f args' R) (ha : Rcs args args') (hk : ∀ v, R v → Run (K v H)) : ACall P w0 f args H K := ACall.recast (fun σ vs hv => ha σ vs hv) (run_pure h hk)
theorem run_view (h : PCall P f args' R) (ha : FzL H (nix H.n) args args') (hR : ∀ v, R v → v.flat = true) (hk : ∀ v, R v → Run (K v H)) : ACall P w0 f args H K :=
  ((h w0 _).view ha hR).mono fun v H' ⟨h1, h2⟩ => by subst h2; exact hk v h1
end
end
end Go.Abs
