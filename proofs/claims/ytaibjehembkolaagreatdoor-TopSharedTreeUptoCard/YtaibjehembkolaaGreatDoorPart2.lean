/- A look: what several eyes have noted. -/
import Derived.Test.YtaibjehembkolaaGreatDoorPart
namespace Go.Vt
open Go.RowKit

/-- What a call has handed back: a function that shows something to an eye. -/
structure Out where
  f : FuncId
  b : Nat
  cts : List CT
  cs : List C
  G : Nat → Prop
def Out.val (o : Out) : Value := .func (.func o.f) #[] #[.pointer (some ⟨o.b, 0, none⟩)]
def Out.obs (o : Out) : List Int × List ByteArray := (obsNRow false o.cs, obsSRow false o.cs)
def limO : Nat := 549755813888
/-- What is handed to a call. -/
def limY : Nat := 500000000000
structure OutOK (P : Program) (e1 e2 : Nat) (tab : Nat → List CT) (n : Nat) (w : World) (L : Nat) (o : Out) : Prop where
  see : SeeOK P e1 e2 tab n o.f o.cts
  enter : ∀ args w, (callFunc o.f args).run P w = .ok (.enter o.f args) w
  ht : HtRow tab o.cts o.cs
  rd : RdRow o.G w o.b 0 o.cs
  gb : o.G o.b
  g : ∀ k, o.G k → L ≤ k ∧ k < w.heap.size ∧ ∃ c e, w.heap[k]? = some (.cells c e (0, 0))
  nn : nodesRow o.cs ≤ n
  nl : nodesRow o.cs ≤ limO
theorem OutOK.keep {P : Program} {e1 e2 : Nat} {tab : Nat → List CT} {n : Nat} {w w' : World} {L : Nat} {o : Out} (h : OutOK P e1 e2 tab n w L o) (hs : w.heap.size ≤ w'.heap.size) (hb : ∀ k, o.G k → w'.heap[k]? = w.heap[k]?) : OutOK P e1 e2 tab n w' L o :=
  ⟨h.see, h.enter, h.ht, Rd.monoRow (fun k hk => ⟨hk, hb k hk⟩) o.b (hb o.b h.gb) o.cs 0 h.rd, h.gb, fun k hk => by obtain ⟨h1, h2, c, e, h3⟩ := h.g k hk; exact ⟨h1, by omega, c, e, (hb k hk).trans h3⟩, h.nn, h.nl⟩

theorem ownsRow_keep {w w' : World} {B e n : Nat} {v : Value} {xs : List Value} (h : w.ownsRow B e 1 v n xs) (hb : ∀ g, B ≤ g → g < w.heap.size → w'.heap[g]? = w.heap[g]?) : w'.ownsRow B e 1 v n xs := by
  refine ⟨h.1, ?_⟩
  rcases h.2 with hn | ⟨g, cap, cur, rfl, hB, hg, rest⟩
  · exact .inl hn
  · exact .inr ⟨g, cap, cur, rfl, hB, (hb g hB (Array.getElem?_eq_some_iff.1 hg).1).trans hg, rest⟩
theorem Eye.keepB {e1 e2 : Nat} {w w' : World} {be oe B : Nat} {ns : List Int} {ss : List ByteArray} {mk : Bool} {a : Int} {rm : Bool} (h : Eye e1 e2 w be oe B ns ss mk a rm) (h0 : w'.heap[be]? = w.heap[be]?) (hb : ∀ g, B ≤ g → g < w.heap.size → w'.heap[g]? = w.heap[g]?) : Eye e1 e2 w' be oe B ns ss mk a rm := by
  obtain ⟨nv, sv, hv⟩ := h
  obtain ⟨c, e, h1, r⟩ := hv.blk
  exact ⟨nv, sv, ⟨c, e, h0.trans h1, r⟩, ownsRow_keep hv.rowN hb, ownsRow_keep hv.rowS hb, hv.lt⟩
/-- Another eye of the same block has seen something. -/
theorem Eye.far {e1 e2 : Nat} {w w' : World} {be oe B : Nat} {ns : List Int} {ss : List ByteArray} {m : Bool} {a : Int} {r : Bool} (h : Eye e1 e2 w be oe B ns ss m a r) {F : Nat → Prop} {B' oe' : Nat} (hc : SeeChg false F B' be oe' w w') (hB : w.heap.size ≤ B') (ho : oe + 5 ≤ oe' ∨ oe' + 5 ≤ oe) : Eye e1 e2 w' be oe B ns ss m a r := by
  obtain ⟨nv, sv, hv⟩ := h
  obtain ⟨c, e, h1, q0, q1, q2, q3, q4⟩ := hv.blk
  obtain ⟨x, x', e', k1, k2, k3, k4⟩ := hc.eye
  rw [h1] at k1; injection k1 with k1; injection k1 with k1 k5 _; subst k1 k5
  have hb : ∀ g, B ≤ g → g < w.heap.size → w'.heap[g]? = w.heap[g]? := fun g hg hl => hc.fr.block g hl (by
    rintro (rfl | h2 | ⟨h2, _⟩)
    · have := hv.lt; omega
    · omega
    · cases h2)
  refine ⟨nv, sv, ⟨x', e, k2, ?_, ?_, ?_, ?_, ?_⟩, ownsRow_keep hv.rowN hb, ownsRow_keep hv.rowS hb, hv.lt⟩
  · rw [k4 _ (by omega)]; exact q0
  · rw [k4 _ (by omega)]; exact q1
  · rw [k4 _ (by omega)]; exact q2
  · rw [k4 _ (by omega)]; exact q3
  · rw [k4 _ (by omega)]; exact q4

def zeroEye : List Value := [.slice none 0 0, .slice none 0 0, .bool false, .int .i64 0, .bool false]
/-- Where 'look' stands behind i functions. -/
structure LookAt (e1 e2 T : Nat) (outs : List Out) (w : World) (i : Nat) (wr : World) : Prop where
  bel : Below w.heap.size w wr
  blk : ∃ c, wr.heap[w.heap.size]? = some (.cells c T (0, 0)) ∧ c.size = outs.length * 5 ∧ ∀ j, i ≤ j → j < outs.length → ∀ q, q < 5 → c[j * 5 + q]? = zeroEye[q]?
  eyes : ∀ j o, j < i → outs[j]? = some o → ∃ B a, w.heap.size < B ∧ o.obs.1.length ≤ lim ∧ o.obs.2.length ≤ lim ∧ Eye e1 e2 wr w.heap.size (j * 5) B o.obs.1 o.obs.2 false a false
theorem zeroEye_at {Z : Array Value} (hz : Z = zeroEye.toArray) (n j q : Nat) (hj : j < n) (hq : q < 5) : (madeCells Z (n * 5))[j * 5 + q]? = zeroEye[q]? := by
  have h1 : j * 5 + q < n * 5 := by omega
  subst hz
  have h2 : (j * 5 + q) % 5 = q := by omega
  rw [Array.getElem?_eq_getElem (by rw [size_madeCells]; exact h1)]
  simp only [madeCells, Array.getElem_map, Array.getElem_range]
  have h3 : zeroEye.toArray.size = 5 := rfl
  rw [h3, h2]
  have : q = 0 ∨ q = 1 ∨ q = 2 ∨ q = 3 ∨ q = 4 := by omega
  rcases this with rfl | rfl | rfl | rfl | rfl <;> rfl
theorem LookAt.start {e1 e2 T : Nat} {outs : List Out} {w : World} {Z : Array Value} (hz : Z = zeroEye.toArray) : LookAt e1 e2 T outs w 0 (w.alloc (.cells (madeCells Z (outs.length * 5)) T)) :=
  ⟨(Below.refl _ _).alloc (Nat.le_refl _) _, ⟨_, heap_alloc_new w _, size_madeCells _ _, fun j _ hj q hq => zeroEye_at hz _ _ _ hj hq⟩, fun j o hj => absurd hj (by omega)⟩
theorem LookAt.next {P : Program} {e1 e2 T : Nat} {tab : Nat → List CT} {n L : Nat} {outs : List Out} {w wr : World} {i : Nat} {o : Out} (h : LookAt e1 e2 T outs w i wr) (ho : outs[i]? = some o) (hk : OutOK P e1 e2 tab n w L o) :
    SeePre e1 e2 tab o.cts false false o.cs o.G wr w.heap.size (i * 5) wr.heap.size o.b 0 [] [] 0 ∧
      ∀ e w2, SeePost e1 e2 false false (nodesRow o.cs) (obsNRow false o.cs) (obsSRow false o.cs) o.G wr w.heap.size (i * 5) wr.heap.size [] [] 0 e w2 → e = .returned (.tuple #[]) ∧ LookAt e1 e2 T outs w (i + 1) w2 := by
  have hi := (List.getElem?_eq_some_iff.1 ho).1
  obtain ⟨c, hb, hs, hz⟩ := h.blk
  have hsz : w.heap.size < wr.heap.size := (Array.getElem?_eq_some_iff.1 hb).1
  have hok := hk.keep h.bel.size (fun k hk' => h.bel.block k (hk.g k hk').2.1)
  have hnl := hk.nl
  simp only [limO] at hnl
  have hz0 := hz i (Nat.le_refl _) hi 0 (by omega)
  have hz1 := hz i (Nat.le_refl _) hi 1 (by omega)
  have hz2 := hz i (Nat.le_refl _) hi 2 (by omega)
  have hz3 := hz i (Nat.le_refl _) hi 3 (by omega)
  have hz4 := hz i (Nat.le_refl _) hi 4 (by omega)
  refine ⟨⟨hok.ht, hok.gb, hok.rd, by simp, fun k hk' => ?_, Nat.le_refl _, ⟨.slice none 0 0, .slice none 0 0, ⟨c, T, hb, hz0, hz1, hz2, hz3, hz4⟩, World.ownsRow_nil _ _ _ _, World.ownsRow_nil _ _ _ _, hsz⟩, by simp, ?_, ?_, Int.le_refl _, ?_⟩, ?_⟩
  · have := (hk.g k hk').2.1; exact ⟨by omega, by omega⟩
  · simp only [List.length_nil, lim]; omega
  · simp only [List.length_nil, lim]; omega
  · simp only [lim]; omega
  · rintro e w2 ⟨rfl, ns', ss', a', hS⟩
    refine ⟨rfl, ?_⟩
    obtain ⟨s1, s2, s3⟩ := hS.same rfl
    simp only [List.nil_append] at s1 s2
    subst s1 s2
    obtain ⟨x, x', e', k1, k2, k3, k4⟩ := hS.chg.eye
    rw [hb] at k1; injection k1 with k1; injection k1 with k1 k5 _; subst k1 k5
    have hbel : Below w.heap.size wr w2 := hS.chg.fr.below (by omega) (fun k hk' => by
      rintro (rfl | h2 | ⟨h2, _⟩)
      · omega
      · omega
      · cases h2)
    refine ⟨h.bel.trans hbel, ⟨x', k2, k3.trans hs, fun j hj hjl q hq => ?_⟩, fun j o' hj hjo => ?_⟩
    · rw [k4 _ (by omega)]; exact hz j (by omega) hjl q hq
    · by_cases hji : j = i
      · subst hji
        rw [ho] at hjo; injection hjo with hjo; subst hjo
        have l1 := hS.ln; have l2 := hS.ls
        simp only [List.length_nil] at l1 l2
        exact ⟨wr.heap.size, a', hsz, by simp only [Out.obs, lim]; omega, by simp only [Out.obs, lim]; omega, hS.eye⟩
      · obtain ⟨B, a, hB, g1, g2, hE⟩ := h.eyes j o' (by omega) hjo
        exact ⟨B, a, hB, g1, g2, hE.far hS.chg (Nat.le_refl _) (by omega)⟩

/-- What 'look' hands back: an eye for each function. -/
def Looks (e1 e2 : Nat) (L : Nat) (w : World) (v : Value) (obs : List (List Int × List ByteArray)) : Prop :=
  ∃ a cap g, v = .slice a obs.length cap ∧ L ≤ g ∧ (obs ≠ [] → a = some ⟨g, 0, none⟩ ∧ g < w.heap.size) ∧ ∀ j o, obs[j]? = some o → o.1.length ≤ lim ∧ o.2.length ≤ lim ∧ ∃ B m, L ≤ B ∧ Eye e1 e2 w g (j * 5) B o.1 o.2 false m false
theorem Looks.keep {e1 e2 L : Nat} {w w' : World} {v : Value} {obs : List (List Int × List ByteArray)} (h : Looks e1 e2 L w v obs) (hs : w.heap.size ≤ w'.heap.size) (hb : ∀ k, L ≤ k → k < w.heap.size → w'.heap[k]? = w.heap[k]?) : Looks e1 e2 L w' v obs := by
  obtain ⟨a, cap, g, h1, h2, h3, h4⟩ := h
  refine ⟨a, cap, g, h1, h2, fun hn => ⟨(h3 hn).1, by have := (h3 hn).2; omega⟩, fun j o hj => ?_⟩
  obtain ⟨k1, k2, B, m, k3, k4⟩ := h4 j o hj
  have hn : obs ≠ [] := by intro e; subst e; simp at hj
  exact ⟨k1, k2, B, m, k3, k4.keepB (hb g h2 (h3 hn).2) (fun k hk hl => hb k (by omega) hl)⟩
theorem LookAt.done {e1 e2 T cap : Nat} {outs : List Out} {w wr : World} (h : LookAt e1 e2 T outs w outs.length wr) :
    Looks e1 e2 w.heap.size wr (.slice (some ⟨w.heap.size, 0, none⟩) outs.length cap) (outs.map Out.obs) := by
  obtain ⟨c, hb, _⟩ := h.blk
  refine ⟨_, cap, w.heap.size, by rw [List.length_map], Nat.le_refl _, fun _ => ⟨rfl, (Array.getElem?_eq_some_iff.1 hb).1⟩, fun j o hj => ?_⟩
  rw [List.getElem?_map] at hj
  cases ho : outs[j]? with
  | none => rw [ho] at hj; simp at hj
  | some o' =>
    rw [ho] at hj; simp only [Option.map_some, Option.some.injEq] at hj; subst hj
    obtain ⟨B, a, k1, g1, g2, k2⟩ := h.eyes j o' (List.getElem?_eq_some_iff.1 ho).1 ho
    exact ⟨g1, g2, B, a, by omega, k2⟩
theorem Eye.read {e1 e2 : Nat} {w : World} {be oe B : Nat} {ns : List Int} {ss : List ByteArray} {m : Bool} {a : Int} {r : Bool} (h : Eye e1 e2 w be oe B ns ss m a r) (hl : ns.length ≤ lim) (hs : ss.length ≤ lim) : ∃ nv sv, w.cell? ⟨be, oe, none⟩ = some nv ∧ w.cell? ⟨be, oe + 1, none⟩ = some sv ∧ w.cell? ⟨be, oe + 2, none⟩ = some (.bool m) ∧ w.cell? ⟨be, oe + 3, none⟩ = some (.int .i64 a) ∧ w.cell? ⟨be, oe + 4, none⟩ = some (.bool r) ∧ EyeR w (.agg #[nv, sv, .bool m, .int .i64 a, .bool r]) ns ss := by
  obtain ⟨nv, sv, hv⟩ := h
  exact ⟨nv, sv, hv.cell0, hv.cell1, hv.cell2, hv.cell3, hv.cell4, ⟨nv, sv, m, a, r, rfl, ReadsAt.of_own hv.rowN, ReadsAt.of_own hv.rowS⟩, hl, hs⟩
theorem EyeR.keep {w w' : World} {v : Value} {ns : List Int} {ss : List ByteArray} (h : EyeR w v ns ss) (hb : Below w.heap.size w w') : EyeR w' v ns ss := by
  obtain ⟨⟨nv, sv, m, a, r, h1, h2, h3⟩, hl, hs⟩ := h
  exact ⟨⟨nv, sv, m, a, r, h1, h2.keep hb, h3.keep hb⟩, hl, hs⟩
def LookOK (P : Program) (e1 e2 : Nat) (tab : Nat → List CT) (n : Nat) (f : FuncId) : Prop :=
  ∀ (L : Nat) (w : World) (v : Value) (outs : List Out), ReadsAt w v (outs.map Out.val) → outs.length ≤ 100000 → (∀ o ∈ outs, OutOK P e1 e2 tab n w L o) →
    Calls P f #[v] w fun e w' => ∃ u, e = .returned u ∧ Looks e1 e2 w.heap.size w' u (outs.map Out.obs) ∧ Below w.heap.size w w'
def AlikeOK (P : Program) (e1 e2 : Nat) (f : FuncId) : Prop :=
  ∀ (L L' : Nat) (w : World) (v u : Value) (but : Int) (obs obs' : List (List Int × List ByteArray)), -1 ≤ but → but ≤ 100000 → obs.length ≤ 100000 → Looks e1 e2 L w v obs → Looks e1 e2 L' w u obs' → obs'.length = obs.length → (∀ (j : Nat), (j : Int) ≠ but → obs'[j]? = obs[j]?) →
    Calls P f #[v, u, .int .i64 but] w fun e w' => e = .returned (.bool true) ∧ Below w.heap.size w w'
end Go.Vt
namespace Go.Vt
open Go.RowKit
theorem LookAt.drew {e1 e2 T : Nat} {outs : List Out} {w wr : World} {i : Nat} (h : LookAt e1 e2 T outs w i wr) : LookAt e1 e2 T outs w i wr.drew := by
  obtain ⟨h1, h2, h3⟩ := h
  refine ⟨⟨h1.os, h1.tape, h1.output, h1.size, h1.block⟩, h2, fun j o hj ho => ?_⟩
  obtain ⟨B, a, k1, g1, g2, k2⟩ := h3 j o hj ho
  exact ⟨B, a, k1, g1, g2, k2.keepB rfl (fun _ _ _ => rfl)⟩
end Go.Vt
