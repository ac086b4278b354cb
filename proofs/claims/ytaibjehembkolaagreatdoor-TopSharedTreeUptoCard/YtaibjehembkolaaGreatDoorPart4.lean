/- The contracts of the call, and of the whole comparison. -/
import Derived.Test.YtaibjehembkolaaGreatDoorPart3
namespace Go.Vt
open Go.RowKit

/-- What a call hands back. -/
structure Gave (P : Program) (e1 e2 : Nat) (tab : Nat → List CT) (n M0 : Nat) (W : World) (v : Value) (outs : List Out) : Prop where
  len : outs.length ≤ 100000
  houts : ∀ o ∈ outs, OutOK P e1 e2 tab n W M0 o
  happ : ∀ (i j : Nat) (oi oj : Out), i ≠ j → outs[i]? = some oi → outs[j]? = some oj → ∀ k, oi.G k → ¬ oj.G k
  hv : ∃ a cap g, v = .slice a outs.length cap ∧ (outs ≠ [] → a = some ⟨g, 0, none⟩ ∧ M0 ≤ g ∧ g < W.heap.size) ∧ (∀ o ∈ outs, ¬ o.G g) ∧ ∀ j o, outs[j]? = some o → W.cell? ⟨g, j, none⟩ = some o.val
/-- f reads what b holds, and hands back functions that show something new. -/
def CallOK (P : Program) (e1 e2 : Nat) (tab : Nat → List CT) (n : Nat) (f : FuncId) (cts : List CT) : Prop :=
  ∀ (F : Nat → Prop) (W : World) (b : Nat) (cs : List C), nodesRow cs ≤ limY → HtRow tab cts cs → RdRow F W b 0 cs → F b → (∀ k, F k → k < W.heap.size) →
    Calls P f #[.pointer (some ⟨b, 0, none⟩)] W fun e W' => ∃ v outs, e = .returned v ∧ Gave P e1 e2 tab n W.heap.size W' v outs ∧ Below W.heap.size W W'

/-- A new eye looks, and does not mark. -/
theorem see_plain {P : Program} {e1 e2 : Nat} {tab : Nat → List CT} {n : Nat} {f : FuncId} {cts : List CT} (hs : SeeOK P e1 e2 tab n f cts) {F : Nat → Prop} {W : World} {b be T : Nat} {cs : List C} {rm : Bool} (hn : nodesRow cs ≤ n) (hl : nodesRow cs ≤ limO) (ht : HtRow tab cts cs) (hr : RdRow F W b 0 cs) (hb : F b) (hF : ∀ k, F k → k < W.heap.size ∧ k ≠ be) (hroom : rm = true → RoomyRow cs) (hbe : W.heap[be]? = some (freshEye false rm 0 T)) :
    Calls P f #[.pointer (some ⟨be, 0, none⟩), .pointer (some ⟨b, 0, none⟩)] W fun e W' => e = .returned (.tuple #[]) ∧ Below be W W' ∧ (∀ k, k < W.heap.size → k ≠ be → W'.heap[k]? = W.heap[k]?) ∧ ∃ ns ss B a, ns.length ≤ lim ∧ ss.length ≤ lim ∧ Eye e1 e2 W' be 0 B ns ss false a rm := by
  have hlt : be < W.heap.size := (Array.getElem?_eq_some_iff.1 hbe).1
  simp only [limO] at hl
  have hE : Eye e1 e2 W be 0 W.heap.size [] [] false 0 rm := ⟨_, _, ⟨_, T, hbe, rfl, rfl, rfl, rfl, rfl⟩, World.ownsRow_nil _ _ _ _, World.ownsRow_nil _ _ _ _, hlt⟩
  refine (hs false rm cs F W be 0 W.heap.size b 0 [] [] 0 hn ⟨ht, hb, hr, by simp, hF, Nat.le_refl _, hE, hroom, by simp only [List.length_nil, lim]; omega, by simp only [List.length_nil, lim]; omega, Int.le_refl _, by simp only [lim]; omega⟩).mono ?_
  rintro e W' ⟨rfl, ns', ss', a', hS⟩
  have hkeep : ∀ k, k < W.heap.size → k ≠ be → W'.heap[k]? = W.heap[k]? := fun k hk hb => hS.chg.fr.block k hk (by
    rintro (rfl | h2 | ⟨h2, h3⟩)
    · exact hb rfl
    · omega
    · cases h2)
  have l1 := hS.ln; have l2 := hS.ls
  simp only [List.length_nil] at l1 l2
  exact ⟨rfl, ⟨hS.chg.fr.os, hS.chg.fr.tape, hS.chg.fr.output, hS.chg.fr.size, fun k hk => hkeep k (by omega) (by omega)⟩, hkeep, ns', ss', W.heap.size, a', by simp only [lim]; omega, by simp only [lim]; omega, hS.eye⟩

section
variable {P : Program} {e1 e2 T : Nat} {tab : Nat → List CT} {n : Nat}
/-- What is shown, as a thing. -/
def Yet (f b : Nat) (cts : List CT) (cs : List C) (B0 : Nat) (W : World) : Out := ⟨f, b, cts, cs, fun k => B0 ≤ k ∧ k ≤ b ∧ ∃ c e, W.heap[k]? = some (.cells c e (0, 0))⟩
theorem Stage.start {f B0 Ty : Nat} {cts : List CT} {cs0 cs : List C} {vs : List Value} {w2 W : World} (hs : SeeOK P e1 e2 tab n f cts) (hent : ∀ args w, (callFunc f args).run P w = .ok (.enter f args) w)
    (ho : OwnedRow tab cts cs0 cs vs B0 w2) (hn : nodesRow cs ≤ n) (hl : nodesRow cs ≤ limY) (hB0 : B0 ≤ w2.heap.size) (hW : Below w2.heap.size w2 W) (hsz : W.heap.size = w2.heap.size + 5) (hy : W.heap[w2.heap.size]? = some (.cells vs.toArray Ty (0, 0)))
    (he : ∀ j, j < 4 → W.heap[w2.heap.size + 1 + j]? = some (freshEye false true 0 T)) :
    Stage P e1 e2 T tab n B0 (w2.heap.size + 5) (w2.heap.size + 5) (Yet f w2.heap.size cts cs B0 W) (fun _ => none) [] (.slice none 0 0) [] W := by
  obtain ⟨k1, k2, k3, k4⟩ := OwnedRow.out _ _ _ _ ho
  have hG : ∀ k, Nw B0 w2 k → (B0 ≤ k ∧ k ≤ w2.heap.size ∧ ∃ c e, W.heap[k]? = some (.cells c e (0, 0))) ∧ W.heap[k]? = w2.heap[k]? := fun k ⟨g1, g2, c, e, g3⟩ => by
    have := hW.block k g2
    exact ⟨⟨g1, by omega, c, e, this.trans g3⟩, this⟩
  have hrd : RdVals (Yet f w2.heap.size cts cs B0 W).G W cs vs := RdVals.mono hG _ _ k4
  have hrow : RdRow (Yet f w2.heap.size cts cs B0 W).G W w2.heap.size 0 cs := RdVals.row cs vs 0 hrd (fun j u hu => by
    rw [Nat.zero_add, cell_of_row _ _ _ _ _ _ hy]; simpa using hu)
  refine ⟨⟨hs, hent, k1, hrow, ⟨hB0, Nat.le_refl _, _, _, hy⟩, fun k hk => ⟨hk.1, by have := hk.2.1; show k < W.heap.size; omega, hk.2.2⟩, hn, Nat.le_trans hl (by decide)⟩, ⟨k2, hl⟩, fun k hk => hk.2.1, Nat.le_refl _, Nat.le_refl _, by omega, fun j hj => he j hj, by simp, by simp, ⟨none, 0, 0, rfl, by simp, by simp, by simp⟩, by simp⟩
variable {B0 M0 M : Nat} {y : Out} {eyes : Nat → Option Obs} {vl : Value} {W W' : World}
/-- The call. -/
theorem Stage.call (h : Stage P e1 e2 T tab n B0 M0 M y eyes [] vl [] W) {f : FuncId} (hc : CallOK P e1 e2 tab n f y.cts) :
    Calls P f #[.pointer (some ⟨y.b, 0, none⟩)] W fun e W' => ∃ v outs M1 M2, e = .returned v ∧ Below W.heap.size W W' ∧ outs.length ≤ 100000 ∧ Stage P e1 e2 T tab n B0 M1 M2 y eyes outs v [] W' := by
  have hm0 := h.m0; have hm := h.m; have hmw := h.mw
  refine (hc y.G W y.b y.cs h.yr.2 h.hy.ht h.hy.rd h.hy.gb (fun k hk => (h.hy.g k hk).2.1)).mono ?_
  rintro e W' ⟨v, outs, rfl, hg, hb⟩
  have hs := hb.size
  refine ⟨v, outs, W.heap.size, W'.heap.size, rfl, hb, hg.len, h.hy.keep hs (fun k hk' => hb.block k (h.hy.g k hk').2.1), h.yr, h.yg, by omega, hs, Nat.le_refl _, fun j hj => ?_, fun o ho => ⟨hg.houts o ho, fun k hk => ((hg.houts o ho).g k hk).2.1⟩, hg.happ, hg.hv, by simp⟩
  have := h.heyes j hj
  revert this
  cases eyes j with
  | none => exact fun he => (hb.block _ (by omega)).trans he
  | some o =>
    rintro ⟨h1, h2, B, U, a, k1, k2, k3, k4, k5⟩
    exact ⟨h1, h2, B, U, a, k1, by omega, .inl k2, by omega, k5.keep (hb.block _ (by omega)) (fun g _ hu => hb.block g (by omega))⟩
variable {outs : List Out} {tolds : List (Value × List Obs)}
/-- An eye that has looked, by value. -/
theorem Stage.eye (h : Stage P e1 e2 T tab n B0 M0 M y eyes outs vl tolds W) (j : Nat) (hj : j < 4) {o : Obs} (ho : eyes j = some o) : ∃ nv sv a, W.cell? ⟨y.b + 1 + j, 0, none⟩ = some nv ∧ W.cell? ⟨y.b + 1 + j, 1, none⟩ = some sv ∧ W.cell? ⟨y.b + 1 + j, 2, none⟩ = some (.bool false) ∧ W.cell? ⟨y.b + 1 + j, 3, none⟩ = some (.int .i64 a) ∧ W.cell? ⟨y.b + 1 + j, 4, none⟩ = some (.bool true) ∧ EyeR W (.agg #[nv, sv, .bool false, .int .i64 a, .bool true]) o.1 o.2 := by
  have := h.heyes j hj
  rw [ho] at this
  obtain ⟨h1, h2, B, U, a, _, _, _, _, nv, sv, k5, _⟩ := this
  obtain ⟨nv, sv, q0, q1, q2, q3, q4, q5⟩ := Eye.read ⟨nv, sv, k5⟩ h1 h2
  exact ⟨nv, sv, a, q0, by simpa using q1, by simpa using q2, by simpa using q3, by simpa using q4, q5⟩
theorem Stage.forget (h : Stage P e1 e2 T tab n B0 M0 M y eyes outs vl tolds W) : Stage P e1 e2 T tab n B0 M0 M y eyes outs vl [] W :=
  ⟨h.hy, h.yr, h.yg, h.m0, h.m, h.mw, h.heyes, h.houts, h.happ, h.hvl, by simp⟩
theorem Stage.form (h : Stage P e1 e2 T tab n B0 M0 M y eyes outs vl tolds W) : ∃ a cap g, vl = .slice a outs.length cap ∧ ∀ j o, outs[j]? = some o → a = some ⟨g, 0, none⟩ ∧ W.cell? ⟨g, j, none⟩ = some (.func (.func o.f) #[] #[.pointer (some ⟨o.b, 0, none⟩)]) := by
  obtain ⟨a, cap, g, k1, k2, _, k4⟩ := h.hvl
  exact ⟨a, cap, g, k1, fun j o ho => ⟨(k2 (by intro e; subst e; simp at ho)).1, k4 j o ho⟩⟩
def ApartOK (P : Program) (e1 e2 : Nat) (tab : Nat → List CT) (f own see : FuncId) (cts : List CT) : Prop :=
  ∀ (F : Nat → Prop) (w : World) (vs : List Value) (cs : List C) (vc : Value) (fs : List FuncId), nodesRow cs ≤ 1073741824 → HtRow tab cts cs → RdVals F w cs vs → (∀ k, F k → k < w.heap.size) → ReadsAt w vc (fs.map fun f => .func (.func f) #[] #[]) → fs.length ≤ 1000 →
    (∀ f ∈ fs, CallOK P e1 e2 tab limO f cts ∧ ∀ args w, (callFunc f args).run P w = .ok (.enter f args) w) →
    Calls P f #[.agg vs.toArray, .func (.func own) #[] #[], .func (.func see) #[] #[], vc] w fun e w' => e = .returned (.bool true) ∧ Below w.heap.size w w'
theorem five (w : World) (Y E : Obj) : Below w.heap.size w (((((w.alloc Y).alloc E).alloc E).alloc E).alloc E) ∧ (((((w.alloc Y).alloc E).alloc E).alloc E).alloc E).heap.size = w.heap.size + 5 ∧
    (((((w.alloc Y).alloc E).alloc E).alloc E).alloc E).heap[w.heap.size]? = some Y ∧ ∀ j, j < 4 → (((((w.alloc Y).alloc E).alloc E).alloc E).alloc E).heap[w.heap.size + 1 + j]? = some E := by
  have n1 := heap_alloc_new w Y
  have n2 := heap_alloc_new (w.alloc Y) E
  have n3 := heap_alloc_new ((w.alloc Y).alloc E) E
  have n4 := heap_alloc_new (((w.alloc Y).alloc E).alloc E) E
  have n5 := heap_alloc_new ((((w.alloc Y).alloc E).alloc E).alloc E) E
  simp only [alloc_size'] at n2 n3 n4 n5
  have o2 := fun k (h : k < w.heap.size + 1) => Below.heap_alloc (w.alloc Y) E k (by simp only [alloc_size']; exact h)
  have o3 := fun k (h : k < w.heap.size + 2) => Below.heap_alloc ((w.alloc Y).alloc E) E k (by simp only [alloc_size']; omega)
  have o4 := fun k (h : k < w.heap.size + 3) => Below.heap_alloc (((w.alloc Y).alloc E).alloc E) E k (by simp only [alloc_size']; omega)
  have o5 := fun k (h : k < w.heap.size + 4) => Below.heap_alloc ((((w.alloc Y).alloc E).alloc E).alloc E) E k (by simp only [alloc_size']; omega)
  refine ⟨(((((Below.refl _ _).alloc (Nat.le_refl _) _).alloc (by simp only [alloc_size']; omega) _).alloc (by simp only [alloc_size']; omega) _).alloc (by simp only [alloc_size']; omega) _).alloc (by simp only [alloc_size']; omega) _, by simp only [alloc_size'], ?_, fun j hj => ?_⟩
  · rw [o5 _ (by omega), o4 _ (by omega), o3 _ (by omega), o2 _ (by omega)]; exact n1
  · have : j = 0 ∨ j = 1 ∨ j = 2 ∨ j = 3 := by omega
    rcases this with rfl | rfl | rfl | rfl
    · rw [o5 _ (by omega), o4 _ (by omega), o3 _ (by omega)]; exact n2
    · rw [o5 _ (by omega), o4 _ (by omega)]; exact n3
    · rw [o5 _ (by omega)]; exact n4
    · exact n5
end
end Go.Vt
