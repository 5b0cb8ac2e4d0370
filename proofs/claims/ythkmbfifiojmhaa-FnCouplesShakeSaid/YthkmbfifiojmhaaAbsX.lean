/- A world's rows as they are found. -/
import Derived.Test.YthkmbfifiojmhaaAbsW
set_option linter.unusedSimpArgs false
set_option linter.unusedVariables false
namespace Go.Abs
open Go.RowKit
/-- A row found in a world: block, first cell, what it holds. -/
structure FRow where
  g : Nat
  o : Nat
  cs : List AV
def initHeap (rs : List FRow) : Heap := ⟨rs.length, fun b => (rs[b]?).bind fun r => if r.cs = [] then none else some (.cells r.cs false)⟩
/-- The rows found; and of the first world no cell is ever written. -/
def initSig (w : World) (rs : List FRow) : Sig := ⟨fun b => (rs[b]?).map fun r => (r.g, r.o, r.o + r.cs.length), World.cellIs w⟩
theorem pairs_take : ∀ (zs : List (Int × Int)) (k : Nat), (pairs zs).take (2 * k) = pairs (zs.take k)
  | [], k => by simp [pairs]
  | z :: zs, 0 => by simp [pairs]
  | z :: zs, k + 1 => by
    have := pairs_take zs k
    show (AV.int .i64 z.1 :: AV.int .i64 z.2 :: pairs zs).take (2 * k + 2) = AV.int .i64 z.1 :: AV.int .i64 z.2 :: pairs (zs.take k)
    rw [← this]
    rfl
section
variable {w : World} {σ : Sig}
theorem found_row {B0 : Nat} {g o : Nat} {cs : List AV} (hp : 0 < cs.length) (h : ∀ i a, cs[i]? = some a → ∃ v, w.cell? ⟨g, o + i, none⟩ = some v ∧ VR σ a v) : RowAt σ B0 w (g, o, o + cs.length) cs false := by
  obtain ⟨v0, hv0, _⟩ := h 0 cs[0] (by simp [hp])
  simp only [World.cell?] at hv0
  split at hv0
  · rename_i C t fz hg
    have hat : ∀ i a, cs[i]? = some a → ∃ v, C[o + i]? = some v ∧ VR σ a v := by
      intro i a hi
      obtain ⟨v, hv, hr⟩ := h i a hi
      simp only [World.cell?, hg] at hv
      exact ⟨v, by simpa using hv, hr⟩
    have hsz : o + cs.length ≤ C.size := by
      obtain ⟨v, hv, _⟩ := hat (cs.length - 1) cs[cs.length - 1] (by simp)
      have := (Array.getElem?_eq_some_iff.1 hv).1
      omega
    refine ⟨C, t, fz, hg, Nat.le_refl _, hsz, ?_, fun e => by cases e⟩
    refine VRs.of_get (by simp; omega) fun i a v h1 h2 => ?_
    rw [List.getElem?_take] at h2
    split at h2
    · rw [List.getElem?_drop] at h2
      obtain ⟨v', hv', hr⟩ := hat i a h1
      have : C[o + i]? = some v := by simpa using h2
      rw [this] at hv'
      cases hv'
      exact hr
    · cases h2
  · cases hv0
theorem init_sim (rs : List FRow) (h : ∀ (b : Nat) (r : FRow), rs[b]? = some r → ∀ i a, r.cs[i]? = some a → ∃ v, w.cell? ⟨r.g, r.o + i, none⟩ = some v ∧ VR (initSig w rs) a v) : Sim w (initSig w rs) (initHeap rs) w := by
  refine ⟨Below.refl _ _, fun b x hb => ?_, fun b o hb => ?_, fun b b' o o' p p' hne hb hb' hw _ _ => ?_, fun g i ci h => h, fun b o p hb hw _ i ci _ => ?_⟩
  · simp only [initSig, Option.map_eq_some_iff] at hb
    obtain ⟨r, hr, _⟩ := hb
    exact (List.getElem?_eq_some_iff.1 hr).1
  · simp only [initHeap, Option.bind_eq_some_iff] at hb
    obtain ⟨r, hr, hb⟩ := hb
    split at hb
    · cases hb
    · rename_i hne
      cases hb
      refine ⟨(r.g, r.o, r.o + r.cs.length), by simp [initSig, hr], found_row (List.length_pos_iff.2 hne) (h b r hr)⟩
  · simp only [initHeap, Option.bind_eq_some_iff] at hb
    obtain ⟨r, hr, hb⟩ := hb
    split at hb
    · cases hb
    · cases hb; cases hw
  · simp only [initHeap, Option.bind_eq_some_iff] at hb
    obtain ⟨r, hr, hb⟩ := hb
    split at hb
    · cases hb
    · cases hb; cases hw
theorem init_row {rs : List FRow} {b : Nat} {r : FRow} (hr : rs[b]? = some r) (n : Nat) : Row (initHeap rs) (some b) 0 (r.cs.take n) := by
  refine row_iff.2 ?_
  by_cases e : r.cs = []
  · left; simp [e]
  · right
    refine ⟨b, r.cs, false, rfl, by simp [initHeap, hr, e], by simp; omega, ?_⟩
    simp
theorem init_slice {rs : List FRow} {b : Nat} {r : FRow} (hr : rs[b]? = some r) {len c sz : Nat} (hl : len ≤ c) (hc : r.cs.length = c * sz) : VR (initSig w rs) (.slice (some b) 0 len sz none) (.slice (some ⟨r.g, r.o, none⟩) len c) := by
  simp only [VR]
  exact ⟨r.g, r.o, r.o + r.cs.length, r.o, c, by simp [initSig, hr], rfl, hl, fun _ => ⟨rfl, by omega⟩, fun c' e => by cases e⟩
/-- A function's answer in the machine's words. -/
theorem ACall.calls {P : Program} {f : FuncId} {rs : List FRow} {args : List AV} {args' : Array Value} {av : AV} {v : Value} (h : ACall P w f args (initHeap rs) fun r _ => r = av) (hS : Sim w (initSig w rs) (initHeap rs) w) (ha : VRs (initSig w rs) args args'.toList) (hv : ∀ σ u, VR σ av u → u = v) :
    Calls P f args' w fun e w' => e = .returned v ∧ Below w.heap.size w w' := by
  refine (h (initSig w rs) w args' hS ha).mono ?_
  rintro e w' ⟨σ', a, u, H', rfl, _, h2, h3, rfl⟩
  exact ⟨by rw [hv σ' u h3], h2.below⟩
end
end Go.Abs
