/- Looks of several eyes, the stages of one turn of the law, and the contract of the call. -/
import Derived.Test.YtgkamgijnhbcbaaGreatDoorOwn
import Derived.Deep.Draws
namespace Go.Vt
open Go.RowKit

/-- A slice that reads as these values, a cell each. -/
def ReadsAt (w : World) (v : Value) (xs : List Value) : Prop :=
  ∃ a cap g, v = .slice a xs.length cap ∧ (xs ≠ [] → a = some ⟨g, 0, none⟩ ∧ g < w.heap.size) ∧ ∀ j u, xs[j]? = some u → w.cell? ⟨g, j, none⟩ = some u
theorem ReadsAt.of_own {w : World} {B e : Nat} {v : Value} {n : Nat} {xs : List Value} (h : w.ownsRow B e 1 v n xs) : ReadsAt w v xs := by
  have hl := h.1
  rcases h.2 with ⟨rfl, rfl⟩ | ⟨g, cap, cur, rfl, _, hg, _, _, hs, ht⟩
  · have : xs = [] := List.length_eq_zero_iff.1 (by simpa using hl)
    subst this
    exact ⟨none, 0, 0, rfl, by simp, by simp⟩
  · refine ⟨some ⟨g, 0, none⟩, cap, g, by rw [hl, Nat.mul_one], fun _ => ⟨rfl, (Array.getElem?_eq_some_iff.1 hg).1⟩, fun j u hu => ?_⟩
    have := h.cells (g := g) rfl j u hu
    rw [show (⟨g, j, none⟩ : Addr) = (⟨g, 0, none⟩ : Addr).add j from by simp only [Addr.add]; split <;> simp_all]; exact this
theorem ReadsAt.keep {w w' : World} {v : Value} {xs : List Value} (h : ReadsAt w v xs) (hb : Below w.heap.size w w') : ReadsAt w' v xs := by
  obtain ⟨a, cap, g, h1, h2, h3⟩ := h
  refine ⟨a, cap, g, h1, fun hx => ⟨(h2 hx).1, Nat.lt_of_lt_of_le (h2 hx).2 hb.size⟩, fun j u hu => ?_⟩
  have hx : xs ≠ [] := by intro e; subst e; simp at hu
  exact (hb.cell (p := ⟨g, j, none⟩) (h2 hx).2).trans (h3 j u hu)
/-- An eye by value. -/
structure EyeR (w : World) (v : Value) (ns : List Int) (ss : List ByteArray) : Prop where
  ex : ∃ nv sv m a r, v = .agg #[nv, sv, .bool m, .int .i64 a, .bool r] ∧ ReadsAt w nv (ns.map (Value.int .i64)) ∧ ReadsAt w sv (ss.map Value.string)
  ln : ns.length ≤ lim
  ls : ss.length ≤ lim
def IsBool (e : Ending) : Prop := ∃ b, e = .returned (.bool b)
def GreatOK (P : Program) (f : FuncId) : Prop :=
  ∀ (w : World) (v : Value) (ns : List Int) (ss : List ByteArray), EyeR w v ns ss → Calls P f #[v] w fun e w' => IsBool e ∧ Below w.heap.size w w'
def SameOK (P : Program) (f : FuncId) : Prop :=
  ∀ (w : World) (v u : Value) (ns : List Int) (ss : List ByteArray), EyeR w v ns ss → EyeR w u ns ss → Calls P f #[v, u] w fun e w' => e = .returned (.bool true) ∧ Below w.heap.size w w'
theorem below_drewN {B : Nat} {w w' : World} (h : Below B w w') (n : Nat) : Below B w (w'.drewN n) := ⟨h.os, h.tape, h.output, h.size, h.block⟩
end Go.Vt
namespace Go.Vt
open Go.RowKit

/-- What a call has handed back: a function that shows something to an eye. -/
structure Out where
  f : FuncId
  b : Nat
  cts : List CT
  cs : List C
  G : Nat → Prop
def Out.val (o : Out) : Value := .func (.func o.f) #[] #[.pointer (some ⟨o.b, 0, none⟩)]
def Out.obs (o : Out) : List Int × List ByteArray := (obsNRow false o.cs, obsSRow false o.cs)
def limO : Nat := 549755813888
/-- What is handed to a call. -/
def limY : Nat := 500000000000
structure OutOK (P : Program) (e1 e2 : Nat) (tab : Nat → List CT) (n : Nat) (w : World) (L : Nat) (o : Out) : Prop where
  see : SeeOK P e1 e2 tab n o.f o.cts
  enter : ∀ args w, (callFunc o.f args).run P w = .ok (.enter o.f args) w
  ht : HtRow tab o.cts o.cs
  rd : RdRow o.G w o.b 0 o.cs
  gb : o.G o.b
  g : ∀ k, o.G k → L ≤ k ∧ k < w.heap.size ∧ ∃ c e, w.heap[k]? = some (.cells c e (0, 0))
  nn : nodesRow o.cs ≤ n
  nl : nodesRow o.cs ≤ limO
theorem OutOK.keep {P : Program} {e1 e2 : Nat} {tab : Nat → List CT} {n : Nat} {w w' : World} {L : Nat} {o : Out} (h : OutOK P e1 e2 tab n w L o) (hs : w.heap.size ≤ w'.heap.size) (hb : ∀ k, o.G k → w'.heap[k]? = w.heap[k]?) : OutOK P e1 e2 tab n w' L o :=
  ⟨h.see, h.enter, h.ht, Rd.monoRow (fun k hk => ⟨hk, hb k hk⟩) o.b (hb o.b h.gb) o.cs 0 h.rd, h.gb, fun k hk => by obtain ⟨h1, h2, c, e, h3⟩ := h.g k hk; exact ⟨h1, by omega, c, e, (hb k hk).trans h3⟩, h.nn, h.nl⟩

theorem ownsRow_keep {w w' : World} {B e n : Nat} {v : Value} {xs : List Value} (h : w.ownsRow B e 1 v n xs) (hb : ∀ g, B ≤ g → g < w.heap.size → w'.heap[g]? = w.heap[g]?) : w'.ownsRow B e 1 v n xs := by
  refine ⟨h.1, ?_⟩
  rcases h.2 with hn | ⟨g, cap, cur, rfl, hB, hg, rest⟩
  · exact .inl hn
  · exact .inr ⟨g, cap, cur, rfl, hB, (hb g hB (Array.getElem?_eq_some_iff.1 hg).1).trans hg, rest⟩
theorem Eye.keepB {e1 e2 : Nat} {w w' : World} {be oe B : Nat} {ns : List Int} {ss : List ByteArray} {mk : Bool} {a : Int} {rm : Bool} (h : Eye e1 e2 w be oe B ns ss mk a rm) (h0 : w'.heap[be]? = w.heap[be]?) (hb : ∀ g, B ≤ g → g < w.heap.size → w'.heap[g]? = w.heap[g]?) : Eye e1 e2 w' be oe B ns ss mk a rm := by
  obtain ⟨nv, sv, hv⟩ := h
  obtain ⟨c, e, h1, r⟩ := hv.blk
  exact ⟨nv, sv, ⟨c, e, h0.trans h1, r⟩, ownsRow_keep hv.rowN hb, ownsRow_keep hv.rowS hb, hv.lt⟩
/-- Another eye of the same block has seen something. -/
theorem Eye.far {e1 e2 : Nat} {w w' : World} {be oe B : Nat} {ns : List Int} {ss : List ByteArray} {m : Bool} {a : Int} {r : Bool} (h : Eye e1 e2 w be oe B ns ss m a r) {F : Nat → Prop} {B' oe' : Nat} (hc : SeeChg false F B' be oe' w w') (hB : w.heap.size ≤ B') (ho : oe + 5 ≤ oe' ∨ oe' + 5 ≤ oe) : Eye e1 e2 w' be oe B ns ss m a r := by
  obtain ⟨nv, sv, hv⟩ := h
  obtain ⟨c, e, h1, q0, q1, q2, q3, q4⟩ := hv.blk
  obtain ⟨x, x', e', k1, k2, k3, k4⟩ := hc.eye
  rw [h1] at k1; injection k1 with k1; injection k1 with k1 k5 _; subst k1 k5
  have hb : ∀ g, B ≤ g → g < w.heap.size → w'.heap[g]? = w.heap[g]? := fun g hg hl => hc.fr.block g hl (by
    rintro (rfl | h2 | ⟨h2, _⟩)
    · have := hv.lt; omega
    · omega
    · cases h2)
  refine ⟨nv, sv, ⟨x', e, k2, ?_, ?_, ?_, ?_, ?_⟩, ownsRow_keep hv.rowN hb, ownsRow_keep hv.rowS hb, hv.lt⟩
  · rw [k4 _ (by omega)]; exact q0
  · rw [k4 _ (by omega)]; exact q1
  · rw [k4 _ (by omega)]; exact q2
  · rw [k4 _ (by omega)]; exact q3
  · rw [k4 _ (by omega)]; exact q4

def zeroEye : List Value := [.slice none 0 0, .slice none 0 0, .bool false, .int .i64 0, .bool false]
/-- Where 'look' stands behind i functions. -/
structure LookAt (e1 e2 T : Nat) (outs : List Out) (w : World) (i : Nat) (wr : World) : Prop where
  bel : Below w.heap.size w wr
  blk : ∃ c, wr.heap[w.heap.size]? = some (.cells c T (0, 0)) ∧ c.size = outs.length * 5 ∧ ∀ j, i ≤ j → j < outs.length → ∀ q, q < 5 → c[j * 5 + q]? = zeroEye[q]?
  eyes : ∀ j o, j < i → outs[j]? = some o → ∃ B a, w.heap.size < B ∧ o.obs.1.length ≤ lim ∧ o.obs.2.length ≤ lim ∧ Eye e1 e2 wr w.heap.size (j * 5) B o.obs.1 o.obs.2 false a false
theorem zeroEye_at {Z : Array Value} (hz : Z = zeroEye.toArray) (n j q : Nat) (hj : j < n) (hq : q < 5) : (madeCells Z (n * 5))[j * 5 + q]? = zeroEye[q]? := by
  have h1 : j * 5 + q < n * 5 := by omega
  subst hz
  have h2 : (j * 5 + q) % 5 = q := by omega
  rw [Array.getElem?_eq_getElem (by rw [size_madeCells]; exact h1)]
  simp only [madeCells, Array.getElem_map, Array.getElem_range]
  have h3 : zeroEye.toArray.size = 5 := rfl
  rw [h3, h2]
  have : q = 0 ∨ q = 1 ∨ q = 2 ∨ q = 3 ∨ q = 4 := by omega
  rcases this with rfl | rfl | rfl | rfl | rfl <;> rfl
theorem LookAt.start {e1 e2 T : Nat} {outs : List Out} {w : World} {Z : Array Value} (hz : Z = zeroEye.toArray) : LookAt e1 e2 T outs w 0 (w.alloc (.cells (madeCells Z (outs.length * 5)) T)) :=
  ⟨(Below.refl _ _).alloc (Nat.le_refl _) _, ⟨_, heap_alloc_new w _, size_madeCells _ _, fun j _ hj q hq => zeroEye_at hz _ _ _ hj hq⟩, fun j o hj => absurd hj (by omega)⟩
theorem LookAt.next {P : Program} {e1 e2 T : Nat} {tab : Nat → List CT} {n L : Nat} {outs : List Out} {w wr : World} {i : Nat} {o : Out} (h : LookAt e1 e2 T outs w i wr) (ho : outs[i]? = some o) (hk : OutOK P e1 e2 tab n w L o) :
    SeePre e1 e2 tab o.cts false false o.cs o.G wr w.heap.size (i * 5) wr.heap.size o.b 0 [] [] 0 ∧
      ∀ e w2, SeePost e1 e2 false false (nodesRow o.cs) (obsNRow false o.cs) (obsSRow false o.cs) o.G wr w.heap.size (i * 5) wr.heap.size [] [] 0 e w2 → e = .returned (.tuple #[]) ∧ LookAt e1 e2 T outs w (i + 1) w2 := by
  have hi := (List.getElem?_eq_some_iff.1 ho).1
  obtain ⟨c, hb, hs, hz⟩ := h.blk
  have hsz : w.heap.size < wr.heap.size := (Array.getElem?_eq_some_iff.1 hb).1
  have hok := hk.keep h.bel.size (fun k hk' => h.bel.block k (hk.g k hk').2.1)
  have hnl := hk.nl
  simp only [limO] at hnl
  have hz0 := hz i (Nat.le_refl _) hi 0 (by omega)
  have hz1 := hz i (Nat.le_refl _) hi 1 (by omega)
  have hz2 := hz i (Nat.le_refl _) hi 2 (by omega)
  have hz3 := hz i (Nat.le_refl _) hi 3 (by omega)
  have hz4 := hz i (Nat.le_refl _) hi 4 (by omega)
  refine ⟨⟨hok.ht, hok.gb, hok.rd, by simp, fun _ => Rf.ofRow (fun k hk' => (hok.g k hk').2.2) _ hok.gb _ _ hok.rd, fun k hk' => ?_, Nat.le_refl _, ⟨.slice none 0 0, .slice none 0 0, ⟨c, T, hb, hz0, hz1, hz2, hz3, hz4⟩, World.ownsRow_nil _ _ _ _, World.ownsRow_nil _ _ _ _, hsz⟩, by simp, ?_, ?_, Int.le_refl _, ?_⟩, ?_⟩
  · have := (hk.g k hk').2.1; exact ⟨by omega, by omega⟩
  · simp only [List.length_nil, lim]; omega
  · simp only [List.length_nil, lim]; omega
  · simp only [lim]; omega
  · rintro e w2 ⟨rfl, ns', ss', a', hS⟩
    refine ⟨rfl, ?_⟩
    obtain ⟨s1, s2, s3⟩ := hS.same rfl
    simp only [List.nil_append] at s1 s2
    subst s1 s2
    obtain ⟨x, x', e', k1, k2, k3, k4⟩ := hS.chg.eye
    rw [hb] at k1; injection k1 with k1; injection k1 with k1 k5 _; subst k1 k5
    have hbel : Below w.heap.size wr w2 := hS.chg.fr.below (by omega) (fun k hk' => by
      rintro (rfl | h2 | ⟨h2, _⟩)
      · omega
      · omega
      · cases h2)
    refine ⟨h.bel.trans hbel, ⟨x', k2, k3.trans hs, fun j hj hjl q hq => ?_⟩, fun j o' hj hjo => ?_⟩
    · rw [k4 _ (by omega)]; exact hz j (by omega) hjl q hq
    · by_cases hji : j = i
      · subst hji
        rw [ho] at hjo; injection hjo with hjo; subst hjo
        have l1 := hS.ln; have l2 := hS.ls
        simp only [List.length_nil] at l1 l2
        exact ⟨wr.heap.size, a', hsz, by simp only [Out.obs, lim]; omega, by simp only [Out.obs, lim]; omega, hS.eye⟩
      · obtain ⟨B, a, hB, g1, g2, hE⟩ := h.eyes j o' (by omega) hjo
        exact ⟨B, a, hB, g1, g2, hE.far hS.chg (Nat.le_refl _) (by omega)⟩

/-- What 'look' hands back: an eye for each function. -/
def Looks (e1 e2 : Nat) (L : Nat) (w : World) (v : Value) (obs : List (List Int × List ByteArray)) : Prop :=
  ∃ a cap g, v = .slice a obs.length cap ∧ L ≤ g ∧ (obs ≠ [] → a = some ⟨g, 0, none⟩ ∧ g < w.heap.size) ∧ ∀ j o, obs[j]? = some o → o.1.length ≤ lim ∧ o.2.length ≤ lim ∧ ∃ B m, L ≤ B ∧ Eye e1 e2 w g (j * 5) B o.1 o.2 false m false
theorem Looks.keep {e1 e2 L : Nat} {w w' : World} {v : Value} {obs : List (List Int × List ByteArray)} (h : Looks e1 e2 L w v obs) (hs : w.heap.size ≤ w'.heap.size) (hb : ∀ k, L ≤ k → k < w.heap.size → w'.heap[k]? = w.heap[k]?) : Looks e1 e2 L w' v obs := by
  obtain ⟨a, cap, g, h1, h2, h3, h4⟩ := h
  refine ⟨a, cap, g, h1, h2, fun hn => ⟨(h3 hn).1, by have := (h3 hn).2; omega⟩, fun j o hj => ?_⟩
  obtain ⟨k1, k2, B, m, k3, k4⟩ := h4 j o hj
  have hn : obs ≠ [] := by intro e; subst e; simp at hj
  exact ⟨k1, k2, B, m, k3, k4.keepB (hb g h2 (h3 hn).2) (fun k hk hl => hb k (by omega) hl)⟩
theorem LookAt.done {e1 e2 T cap : Nat} {outs : List Out} {w wr : World} (h : LookAt e1 e2 T outs w outs.length wr) :
    Looks e1 e2 w.heap.size wr (.slice (some ⟨w.heap.size, 0, none⟩) outs.length cap) (outs.map Out.obs) := by
  obtain ⟨c, hb, _⟩ := h.blk
  refine ⟨_, cap, w.heap.size, by rw [List.length_map], Nat.le_refl _, fun _ => ⟨rfl, (Array.getElem?_eq_some_iff.1 hb).1⟩, fun j o hj => ?_⟩
  rw [List.getElem?_map] at hj
  cases ho : outs[j]? with
  | none => rw [ho] at hj; simp at hj
  | some o' =>
    rw [ho] at hj; simp only [Option.map_some, Option.some.injEq] at hj; subst hj
    obtain ⟨B, a, k1, g1, g2, k2⟩ := h.eyes j o' (List.getElem?_eq_some_iff.1 ho).1 ho
    exact ⟨g1, g2, B, a, by omega, k2⟩
theorem Eye.read {e1 e2 : Nat} {w : World} {be oe B : Nat} {ns : List Int} {ss : List ByteArray} {m : Bool} {a : Int} {r : Bool} (h : Eye e1 e2 w be oe B ns ss m a r) (hl : ns.length ≤ lim) (hs : ss.length ≤ lim) : ∃ nv sv, w.cell? ⟨be, oe, none⟩ = some nv ∧ w.cell? ⟨be, oe + 1, none⟩ = some sv ∧ w.cell? ⟨be, oe + 2, none⟩ = some (.bool m) ∧ w.cell? ⟨be, oe + 3, none⟩ = some (.int .i64 a) ∧ w.cell? ⟨be, oe + 4, none⟩ = some (.bool r) ∧ EyeR w (.agg #[nv, sv, .bool m, .int .i64 a, .bool r]) ns ss := by
  obtain ⟨nv, sv, hv⟩ := h
  exact ⟨nv, sv, hv.cell0, hv.cell1, hv.cell2, hv.cell3, hv.cell4, ⟨nv, sv, m, a, r, rfl, ReadsAt.of_own hv.rowN, ReadsAt.of_own hv.rowS⟩, hl, hs⟩
theorem EyeR.keep {w w' : World} {v : Value} {ns : List Int} {ss : List ByteArray} (h : EyeR w v ns ss) (hb : Below w.heap.size w w') : EyeR w' v ns ss := by
  obtain ⟨⟨nv, sv, m, a, r, h1, h2, h3⟩, hl, hs⟩ := h
  exact ⟨⟨nv, sv, m, a, r, h1, h2.keep hb, h3.keep hb⟩, hl, hs⟩
def LookOK (P : Program) (e1 e2 : Nat) (tab : Nat → List CT) (n : Nat) (f : FuncId) : Prop :=
  ∀ (L : Nat) (w : World) (v : Value) (outs : List Out), ReadsAt w v (outs.map Out.val) → outs.length ≤ 100000 → (∀ o ∈ outs, OutOK P e1 e2 tab n w L o) →
    Calls P f #[v] w fun e w' => ∃ u, e = .returned u ∧ Looks e1 e2 w.heap.size w' u (outs.map Out.obs) ∧ Below w.heap.size w w'
def AlikeOK (P : Program) (e1 e2 : Nat) (f : FuncId) : Prop :=
  ∀ (L L' : Nat) (w : World) (v u : Value) (but : Int) (obs obs' : List (List Int × List ByteArray)), -1 ≤ but → but ≤ 100000 → obs.length ≤ 100000 → Looks e1 e2 L w v obs → Looks e1 e2 L' w u obs' → obs'.length = obs.length → (∀ (j : Nat), (j : Int) ≠ but → obs'[j]? = obs[j]?) →
    Calls P f #[v, u, .int .i64 but] w fun e w' => e = .returned (.bool true) ∧ Below w.heap.size w w'
end Go.Vt
namespace Go.Vt
open Go.RowKit
theorem LookAt.drew {e1 e2 T : Nat} {outs : List Out} {w wr : World} {i : Nat} (h : LookAt e1 e2 T outs w i wr) : LookAt e1 e2 T outs w i wr.drew := by
  obtain ⟨h1, h2, h3⟩ := h
  refine ⟨⟨h1.os, h1.tape, h1.output, h1.size, h1.block⟩, h2, fun j o hj ho => ?_⟩
  obtain ⟨B, a, k1, g1, g2, k2⟩ := h3 j o hj ho
  exact ⟨B, a, k1, g1, g2, k2.keepB rfl (fun _ _ _ => rfl)⟩
end Go.Vt
namespace Go.Vt
open Go.RowKit

/-- What a look at one thing does, through a new eye at block be. -/
structure Saw (P : Program) (e1 e2 : Nat) (tab : Nat → List CT) (n L : Nat) (mk rm : Bool) (be : Nat) (o : Out) (W W' : World) : Prop where
  os : W'.os = W.os
  tape : W'.tape = W.tape
  output : W'.output = W.output
  size : W.heap.size ≤ W'.heap.size
  keep : ∀ k, k < W.heap.size → k ≠ be → (mk = true → ¬ o.G k) → W'.heap[k]? = W.heap[k]?
  eye : mk = false → (obsNRow rm o.cs).length ≤ lim ∧ (obsSRow rm o.cs).length ≤ lim ∧ ∃ a, Eye e1 e2 W' be 0 W.heap.size (obsNRow rm o.cs) (obsSRow rm o.cs) false a rm
  out : ∃ cs', (mk = false → cs' = o.cs) ∧ (RoomyRow o.cs ∧ nodesRow o.cs ≤ limY → RoomyRow cs' ∧ nodesRow cs' ≤ limY) ∧ OutOK P e1 e2 tab n W' L { o with cs := cs' }
def freshEye (mk rm : Bool) (a : Int) (T : Nat) : Obj := .cells #[.slice none 0 0, .slice none 0 0, .bool mk, .int .i64 a, .bool rm] T (0, 0)
theorem OutOK.sees {P : Program} {e1 e2 : Nat} {tab : Nat → List CT} {n L : Nat} {W : World} {o : Out} (h : OutOK P e1 e2 tab n W L o) (mk rm : Bool) (hr : rm = true → RoomyRow o.cs) {be T : Nat} {a : Int} (hbe : W.heap[be]? = some (freshEye mk rm a T)) (hG : ¬ o.G be) (ha0 : 0 ≤ a) (ha : a ≤ 274877906944) :
    Calls P o.f #[.pointer (some ⟨be, 0, none⟩), .pointer (some ⟨o.b, 0, none⟩)] W fun e W' => e = .returned (.tuple #[]) ∧ Saw P e1 e2 tab n L mk rm be o W W' := by
  have hlt : be < W.heap.size := (Array.getElem?_eq_some_iff.1 hbe).1
  have hnl := h.nl
  simp only [limO] at hnl
  have hE : Eye e1 e2 W be 0 W.heap.size [] [] mk a rm := ⟨_, _, ⟨_, T, hbe, rfl, rfl, rfl, rfl, rfl⟩, World.ownsRow_nil _ _ _ _, World.ownsRow_nil _ _ _ _, hlt⟩
  have hpre : SeePre e1 e2 tab o.cts mk rm o.cs o.G W be 0 W.heap.size o.b 0 [] [] a :=
    ⟨h.ht, h.gb, h.rd, fun _ k hk => (h.g k hk).2.2, fun _ => Rf.ofRow (fun k hk => (h.g k hk).2.2) _ h.gb _ _ h.rd, fun k hk => ⟨(h.g k hk).2.1, fun e => hG (e ▸ hk)⟩, Nat.le_refl _, hE, hr, by simp only [List.length_nil, lim]; omega, by simp only [List.length_nil, lim]; omega, ha0, by simp only [lim]; omega⟩
  refine (h.see mk rm o.cs o.G W be 0 W.heap.size o.b 0 [] [] a h.nn hpre).mono ?_
  rintro e W' ⟨rfl, ns', ss', a', hS⟩
  obtain ⟨cs', m1, m2, m3⟩ := Rd.chgMk hS.chg.chg h.gb h.rd
  have hkeep : ∀ k, k < W.heap.size → k ≠ be → (mk = true → ¬ o.G k) → W'.heap[k]? = W.heap[k]? := fun k hk hb hm => hS.chg.fr.block k hk (by
    rintro (rfl | h2 | ⟨h2, h3⟩)
    · exact hb rfl
    · omega
    · exact hm h2 h3)
  have l1 := hS.ln; have l2 := hS.ls
  simp only [List.length_nil] at l1 l2
  refine ⟨rfl, hS.chg.fr.os, hS.chg.fr.tape, hS.chg.fr.output, hS.chg.fr.size, hkeep, fun hm => ?_, cs', m2, fun h => ⟨MkRow.roomy _ _ m1 h.1, by rw [MkRow.nodes _ _ m1]; exact h.2⟩, ?_⟩
  · obtain ⟨s1, s2, _⟩ := hS.same hm
    simp only [List.nil_append] at s1 s2
    subst s1 s2
    subst hm
    exact ⟨by simp only [lim]; omega, by simp only [lim]; omega, a', hS.eye⟩
  · have hn := MkRow.nodes _ _ m1
    refine ⟨h.see, h.enter, MkRow.ht _ _ _ m1 h.ht, m3, h.gb, fun k hk => ?_, by show nodesRow cs' ≤ n; rw [hn]; exact h.nn, by show nodesRow cs' ≤ limO; rw [hn]; exact h.nl⟩
    obtain ⟨g1, g2, g3⟩ := h.g k hk
    refine ⟨g1, Nat.lt_of_lt_of_le g2 hS.chg.fr.size, ?_⟩
    cases mk with
    | false =>
      obtain ⟨c, e, g3⟩ := g3
      exact ⟨c, e, (hkeep k g2 (fun e => hG (e ▸ hk)) (by simp)).trans g3⟩
    | true =>
      have := hS.chg.chg k hk
      rw [if_pos rfl] at this
      exact this.blk

/-- An eye that has looked: its lists lie in the blocks from B on, below U. -/
def EyeU (e1 e2 : Nat) (W : World) (be B U : Nat) (ns : List Int) (ss : List ByteArray) (a : Int) : Prop :=
  ∃ nv sv, EyeV e1 e2 W be 0 B nv sv ns ss false a true ∧ ∀ k, nv.ownBlock = some k ∨ sv.ownBlock = some k → k < U
theorem EyeU.of {e1 e2 : Nat} {W : World} {be B : Nat} {ns : List Int} {ss : List ByteArray} {a : Int} (h : Eye e1 e2 W be 0 B ns ss false a true) : EyeU e1 e2 W be B W.heap.size ns ss a := by
  obtain ⟨nv, sv, hv⟩ := h
  exact ⟨nv, sv, hv, fun k hk => hk.elim (fun h => (hv.rowN.lt k h).2) (fun h => (hv.rowS.lt k h).2)⟩
theorem ownsRow_keepU {w w' : World} {B e n : Nat} {v : Value} {xs : List Value} (h : w.ownsRow B e 1 v n xs) (hb : ∀ g, B ≤ g → v.ownBlock = some g → w'.heap[g]? = w.heap[g]?) : w'.ownsRow B e 1 v n xs := by
  refine ⟨h.1, ?_⟩
  rcases h.2 with hn | ⟨g, cap, cur, rfl, hB, hg, rest⟩
  · exact .inl hn
  · exact .inr ⟨g, cap, cur, rfl, hB, (hb g hB rfl).trans hg, rest⟩
theorem EyeU.keep {e1 e2 : Nat} {W W' : World} {be B U : Nat} {ns : List Int} {ss : List ByteArray} {a : Int} (h : EyeU e1 e2 W be B U ns ss a) (h0 : W'.heap[be]? = W.heap[be]?) (hb : ∀ g, B ≤ g → g < U → W'.heap[g]? = W.heap[g]?) : EyeU e1 e2 W' be B U ns ss a := by
  obtain ⟨nv, sv, hv, hu⟩ := h
  obtain ⟨c, e, h1, r⟩ := hv.blk
  exact ⟨nv, sv, ⟨⟨c, e, h0.trans h1, r⟩, ownsRow_keepU hv.rowN (fun g hB hg => hb g hB (hu g (.inl hg))), ownsRow_keepU hv.rowS (fun g hB hg => hb g hB (hu g (.inr hg))), hv.lt⟩, hu⟩

abbrev Obs := List Int × List ByteArray
/-- An eye of a round: it is new, or it has looked. M0, M: between them lies what the call has made. -/
def EyeAt (e1 e2 T L M0 M : Nat) (W : World) (be : Nat) : Option Obs → Prop
  | none => W.heap[be]? = some (freshEye false true 0 T)
  | some o => o.1.length ≤ lim ∧ o.2.length ≤ lim ∧ ∃ B U a, L ≤ B ∧ U ≤ W.heap.size ∧ (U ≤ M0 ∨ M ≤ B) ∧ be < W.heap.size ∧ EyeU e1 e2 W be B U o.1 o.2 a
theorem EyeAt.keep {e1 e2 T L M0 M : Nat} {W W' : World} {be : Nat} : ∀ (s : Option Obs), EyeAt e1 e2 T L M0 M W be s → W.heap.size ≤ W'.heap.size → W'.heap[be]? = W.heap[be]? → (∀ k, L ≤ k → k < W.heap.size → (k < M0 ∨ M ≤ k) → W'.heap[k]? = W.heap[k]?) → EyeAt e1 e2 T L M0 M W' be s
  | none, h, _, h0, _ => h0.trans h
  | some o, ⟨h1, h2, B, U, a, k1, k2, k3, k4, k5⟩, hs, h0, hb =>
    ⟨h1, h2, B, U, a, k1, by omega, k3, by omega, k5.keep h0 (fun g hg hu => hb g (by omega) (by omega) (by omega))⟩

/-- Where a round stands. -/
structure Stage (P : Program) (e1 e2 T : Nat) (tab : Nat → List CT) (n : Nat) (B0 M0 M : Nat) (y : Out) (eyes : Nat → Option Obs) (outs : List Out) (vl : Value) (tolds : List (Value × List Obs)) (W : World) : Prop where
  hy : OutOK P e1 e2 tab n W B0 y
  yr : RoomyRow y.cs ∧ nodesRow y.cs ≤ limY
  yg : ∀ k, y.G k → k ≤ y.b
  m0 : y.b + 5 ≤ M0
  m : M0 ≤ M
  mw : M ≤ W.heap.size
  heyes : ∀ j, j < 4 → EyeAt e1 e2 T (y.b + 5) M0 M W (y.b + 1 + j) (eyes j)
  houts : ∀ o ∈ outs, OutOK P e1 e2 tab n W M0 o ∧ ∀ k, o.G k → k < M
  happ : ∀ (i j : Nat) (oi oj : Out), i ≠ j → outs[i]? = some oi → outs[j]? = some oj → ∀ k, oi.G k → ¬ oj.G k
  hvl : ∃ a cap g, vl = .slice a outs.length cap ∧ (outs ≠ [] → a = some ⟨g, 0, none⟩ ∧ M0 ≤ g ∧ g < M) ∧ (∀ o ∈ outs, ¬ o.G g) ∧ ∀ j o, outs[j]? = some o → W.cell? ⟨g, j, none⟩ = some o.val
  htolds : ∀ p ∈ tolds, ∃ L, M ≤ L ∧ Looks e1 e2 L W p.1 p.2

section
variable {P : Program} {e1 e2 T : Nat} {tab : Nat → List CT} {n B0 M0 M : Nat} {y : Out} {eyes : Nat → Option Obs} {outs : List Out} {vl : Value} {tolds : List (Value × List Obs)} {W W' : World}
theorem out_cell {W W' : World} {g j : Nat} {u : Value} (h : W.cell? ⟨g, j, none⟩ = some u) (hb : W'.heap[g]? = W.heap[g]?) : W'.cell? ⟨g, j, none⟩ = some u := (World.cell?_of_block (w := W) hb).trans h
/-- Something new is made; all that lies stays. -/
theorem Stage.below (h : Stage P e1 e2 T tab n B0 M0 M y eyes outs vl tolds W) (hb : Below W.heap.size W W') : Stage P e1 e2 T tab n B0 M0 M y eyes outs vl tolds W' := by
  have hm0 := h.m0; have hm := h.m; have hmw := h.mw; have hs := hb.size
  have hk : ∀ k, k < W.heap.size → W'.heap[k]? = W.heap[k]? := hb.block
  refine ⟨h.hy.keep hs (fun k hk' => hk k (h.hy.g k hk').2.1), h.yr, h.yg, hm0, hm, by omega, fun j hj => EyeAt.keep _ (h.heyes j hj) hs (hk _ (by omega)) (fun k _ hl _ => hk k hl), fun o ho => ⟨(h.houts o ho).1.keep hs (fun k hk' => hk k ((h.houts o ho).1.g k hk').2.1), (h.houts o ho).2⟩, h.happ, ?_, fun p hp => ?_⟩
  · obtain ⟨a, cap, g, k1, k2, k3, k4⟩ := h.hvl
    refine ⟨a, cap, g, k1, k2, k3, fun j o ho => out_cell (k4 j o ho) (hk g ?_)⟩
    have := (k2 (by intro e; subst e; simp at ho)).2.2; omega
  · obtain ⟨L, k1, k2⟩ := h.htolds p hp
    exact ⟨L, k1, k2.keep hs (fun k _ hl => hk k hl)⟩
/-- Eye j looks at y. -/
theorem Stage.see (h : Stage P e1 e2 T tab n B0 M0 M y eyes outs vl tolds W) (j : Nat) (hj : j < 4) (hf : eyes j = none) :
    Calls P y.f #[.pointer (some ⟨y.b + 1 + j, 0, none⟩), .pointer (some ⟨y.b, 0, none⟩)] W fun e W' => e = .returned (.tuple #[]) ∧ Below (y.b + 1) W W' ∧ Stage P e1 e2 T tab n B0 M0 M y (fun i => if i = j then some (obsNRow true y.cs, obsSRow true y.cs) else eyes i) outs vl tolds W' := by
  have hm0 := h.m0; have hm := h.m; have hmw := h.mw
  have he := h.heyes j hj
  rw [hf] at he
  refine (h.hy.sees false true (fun _ => h.yr.1) he (fun hg => by have := h.yg _ hg; omega) (Int.le_refl _) (by decide)).mono ?_
  rintro e W' ⟨rfl, hS⟩
  have hs := hS.size
  have hk : ∀ k, k < W.heap.size → k ≠ y.b + 1 + j → W'.heap[k]? = W.heap[k]? := fun k h1 h2 => hS.keep k h1 h2 (by simp)
  refine ⟨rfl, ⟨hS.os, hS.tape, hS.output, hs, fun k hk' => hk k (by omega) (by omega)⟩, ?_⟩
  obtain ⟨q1, q2, a, q3⟩ := hS.eye rfl
  obtain ⟨cs', r1, _, r3⟩ := hS.out
  have r1 := r1 rfl
  subst r1
  refine ⟨r3, h.yr, h.yg, hm0, hm, by omega, fun i hi => ?_, fun o ho => ⟨(h.houts o ho).1.keep hs (fun k hk' => hk k ((h.houts o ho).1.g k hk').2.1 (by have := ((h.houts o ho).1.g k hk').1; omega)), (h.houts o ho).2⟩, h.happ, ?_, fun p hp => ?_⟩
  · by_cases hij : i = j
    · subst hij
      rw [if_pos rfl]
      exact ⟨q1, q2, W.heap.size, W'.heap.size, a, by omega, Nat.le_refl _, .inr (by omega), by omega, EyeU.of q3⟩
    · rw [if_neg hij]
      exact EyeAt.keep _ (h.heyes i hi) hs (hk _ (by omega) (by omega)) (fun k hk1 hk2 _ => hk k hk2 (by omega))
  · obtain ⟨a, cap, g, k1, k2, k3, k4⟩ := h.hvl
    refine ⟨a, cap, g, k1, k2, k3, fun j' o ho => out_cell (k4 j' o ho) (hk g ?_ ?_)⟩
    · have := (k2 (by intro e; subst e; simp at ho)).2.2; omega
    · have := (k2 (by intro e; subst e; simp at ho)).2.1; omega
  · obtain ⟨L, k1, k2⟩ := h.htolds p hp
    exact ⟨L, k1, k2.keep hs (fun k hk1 hk2 => hk k hk2 (by omega))⟩
/-- A new eye that marks looks at y. -/
theorem Stage.poke (h : Stage P e1 e2 T tab n B0 M0 M y eyes outs vl tolds W) {X : Obj} (hX : X = freshEye true true 0 T) :
    Calls P y.f #[.pointer (some ⟨W.heap.size, 0, none⟩), .pointer (some ⟨y.b, 0, none⟩)] (W.alloc X) fun e W' => e = .returned (.tuple #[]) ∧ Below B0 W W' ∧ ∃ cs', Stage P e1 e2 T tab n B0 M0 M { y with cs := cs' } eyes outs vl tolds W' := by
  have hm0 := h.m0; have hm := h.m; have hmw := h.mw
  subst hX
  have ha : Below W.heap.size W (W.alloc (freshEye true true 0 T)) := (Below.refl _ _).alloc (Nat.le_refl _) _
  have hy := h.hy.keep ha.size (fun k hk' => ha.block k (h.hy.g k hk').2.1)
  refine (hy.sees true true (fun _ => h.yr.1) (heap_alloc_new W _) (fun hg => by have := h.yg _ hg; omega) (Int.le_refl _) (by decide)).mono ?_
  rintro e W' ⟨rfl, hS⟩
  have hs : W.heap.size ≤ W'.heap.size := Nat.le_trans ha.size hS.size
  have hk : ∀ k, k < W.heap.size → ¬ y.G k → W'.heap[k]? = W.heap[k]? := fun k h1 h2 => (hS.keep k (Nat.lt_of_lt_of_le h1 ha.size) (by omega) (fun _ => h2)).trans (ha.block k h1)
  have hB : B0 ≤ y.b := (h.hy.g _ h.hy.gb).1
  refine ⟨rfl, ⟨hS.os.trans ha.os, hS.tape.trans ha.tape, hS.output.trans ha.output, hs, fun k hk' => hk k (by omega) (fun hg => by have := (h.hy.g k hg).1; omega)⟩, ?_⟩
  obtain ⟨cs', _, r2, r3⟩ := hS.out
  have far : ∀ k, y.b < k → ¬ y.G k := fun k hk' hg => by have := h.yg k hg; omega
  have hyb : ({ y with cs := cs' } : Out).b = y.b := rfl
  refine ⟨cs', r3, r2 h.yr, h.yg, hm0, hm, by omega, fun i hi => EyeAt.keep _ (h.heyes i hi) hs (hk _ (by rw [hyb]; omega) (far _ (by rw [hyb]; omega))) (fun k hk1 hk2 _ => hk k hk2 (far _ (by rw [hyb] at hk1; omega))), fun o ho => ⟨(h.houts o ho).1.keep hs (fun k hk' => hk k ((h.houts o ho).1.g k hk').2.1 (far _ (by have := ((h.houts o ho).1.g k hk').1; omega))), (h.houts o ho).2⟩, h.happ, ?_, fun p hp => ?_⟩
  · obtain ⟨a, cap, g, k1, k2, k3, k4⟩ := h.hvl
    refine ⟨a, cap, g, k1, k2, k3, fun j' o ho => out_cell (k4 j' o ho) (hk g ?_ (far _ ?_))⟩
    · have := (k2 (by intro e; subst e; simp at ho)).2.2; omega
    · have := (k2 (by intro e; subst e; simp at ho)).2.1; omega
  · obtain ⟨L, k1, k2⟩ := h.htolds p hp
    exact ⟨L, k1, k2.keep hs (fun k hk1 hk2 => hk k hk2 (far _ (by omega)))⟩
/-- A new eye that marks looks at what has come back at place i. -/
theorem Stage.pokeOut (h : Stage P e1 e2 T tab n B0 M0 M y eyes outs vl tolds W) {i : Nat} {o : Out} (ho : outs[i]? = some o) {X : Obj} {a : Int} (hX : X = freshEye true false a T) (h0 : 0 ≤ a) (h1 : a ≤ 274877906944) :
    Calls P o.f #[.pointer (some ⟨W.heap.size, 0, none⟩), .pointer (some ⟨o.b, 0, none⟩)] (W.alloc X) fun e W' => e = .returned (.tuple #[]) ∧ Below M0 W W' ∧ ∃ cs', Stage P e1 e2 T tab n B0 M0 M y eyes (outs.set i { o with cs := cs' }) vl tolds W' := by
  have hm0 := h.m0; have hm := h.m; have hmw := h.mw
  subst hX
  have hmem := List.mem_of_getElem? ho
  have hlt := (List.getElem?_eq_some_iff.1 ho).1
  obtain ⟨hok, hoM⟩ := h.houts o hmem
  have ha : Below W.heap.size W (W.alloc (freshEye true false a T)) := (Below.refl _ _).alloc (Nat.le_refl _) _
  have hy := hok.keep ha.size (fun k hk' => ha.block k (hok.g k hk').2.1)
  refine (hy.sees true false (by simp) (heap_alloc_new W _) (fun hg => by have := (hok.g _ hg).2.1; omega) h0 h1).mono ?_
  rintro e W' ⟨rfl, hS⟩
  have hs : W.heap.size ≤ W'.heap.size := Nat.le_trans ha.size hS.size
  have hk : ∀ k, k < W.heap.size → ¬ o.G k → W'.heap[k]? = W.heap[k]? := fun k h1 h2 => (hS.keep k (Nat.lt_of_lt_of_le h1 ha.size) (by omega) (fun _ => h2)).trans (ha.block k h1)
  have far : ∀ k, (k < M0 ∨ M ≤ k) → ¬ o.G k := fun k hk' hg => by have := (hok.g k hg).1; have := hoM k hg; omega
  refine ⟨rfl, ⟨hS.os.trans ha.os, hS.tape.trans ha.tape, hS.output.trans ha.output, hs, fun k hk' => hk k (by omega) (far k (by omega))⟩, ?_⟩
  obtain ⟨cs', _, _, r3⟩ := hS.out
  have hset : ∀ j, (outs.set i { o with cs := cs' })[j]? = if j = i then some { o with cs := cs' } else outs[j]? := fun j => by
    rw [List.getElem?_set]
    by_cases hji : j = i
    · subst hji; simp [hlt]
    · rw [if_neg (fun e => hji e.symm), if_neg hji]
  refine ⟨cs', h.hy.keep hs (fun k hk' => hk k (h.hy.g k hk').2.1 (far k (by have := h.yg k hk'; omega))), h.yr, h.yg, hm0, hm, by omega, fun j hj => EyeAt.keep _ (h.heyes j hj) hs (hk _ (by omega) (far _ (by omega))) (fun k _ hk2 hk3 => hk k hk2 (far _ hk3)), fun o' ho' => ?_, fun p q op oq hpq hp hq => ?_, ?_, fun p hp => ?_⟩
  · obtain ⟨j, hj⟩ := List.getElem?_of_mem ho'
    rw [hset] at hj
    by_cases hji : j = i
    · rw [if_pos hji] at hj; injection hj with hj; subst hj; exact ⟨r3, hoM⟩
    · rw [if_neg hji] at hj
      have hm' := List.mem_of_getElem? hj
      exact ⟨(h.houts o' hm').1.keep hs (fun k hk' => hk k ((h.houts o' hm').1.g k hk').2.1 (h.happ j i o' o hji hj ho k hk')), (h.houts o' hm').2⟩
  · rw [hset] at hp hq
    by_cases hpi : p = i
    · rw [if_pos hpi] at hp; injection hp with hp; subst hp
      rw [if_neg (by omega)] at hq
      exact h.happ p q o oq hpq (by rw [hpi]; exact ho) hq
    · rw [if_neg hpi] at hp
      by_cases hqi : q = i
      · rw [if_pos hqi] at hq; injection hq with hq; subst hq
        exact h.happ p q op o hpq hp (by rw [hqi]; exact ho)
      · rw [if_neg hqi] at hq
        exact h.happ p q op oq hpq hp hq
  · obtain ⟨a, cap, g, k1, k2, k3, k4⟩ := h.hvl
    have hne : outs ≠ [] := by intro e; subst e; simp at hlt
    refine ⟨a, cap, g, by rw [List.length_set]; exact k1, fun _ => k2 hne, fun o' ho' => ?_, fun j o' ho' => ?_⟩
    · obtain ⟨j, hj⟩ := List.getElem?_of_mem ho'
      rw [hset] at hj
      by_cases hji : j = i
      · rw [if_pos hji] at hj; injection hj with hj; subst hj; exact k3 o hmem
      · rw [if_neg hji] at hj; exact k3 o' (List.mem_of_getElem? hj)
    · have hb : W'.heap[g]? = W.heap[g]? := hk g (by have := (k2 hne).2.2; omega) (k3 o hmem)
      rw [hset] at ho'
      by_cases hji : j = i
      · rw [if_pos hji] at ho'; injection ho' with ho'; subst ho'; subst hji; exact out_cell (k4 j o ho) hb
      · rw [if_neg hji] at ho'; exact out_cell (k4 j o' ho') hb
  · obtain ⟨L, k1, k2⟩ := h.htolds p hp
    exact ⟨L, k1, k2.keep hs (fun k hk1 hk2 => hk k hk2 (far _ (by omega)))⟩
/-- What has come back is looked at. -/
theorem Stage.look (h : Stage P e1 e2 T tab n B0 M0 M y eyes outs vl tolds W) {f : FuncId} (hl : LookOK P e1 e2 tab n f) (hlen : outs.length ≤ 100000) :
    Calls P f #[vl] W fun e W' => ∃ u, e = .returned u ∧ Below W.heap.size W W' ∧ Stage P e1 e2 T tab n B0 M0 M y eyes outs vl ((u, outs.map Out.obs) :: tolds) W' := by
  have hv : ReadsAt W vl (outs.map Out.val) := by
    obtain ⟨a, cap, g, k1, k2, _, k4⟩ := h.hvl
    refine ⟨a, cap, g, by rw [List.length_map]; exact k1, fun hne => ?_, fun j u hu => ?_⟩
    · have := k2 (by intro e; subst e; simp at hne)
      exact ⟨this.1, by have := h.mw; omega⟩
    · rw [List.getElem?_map] at hu
      cases ho : outs[j]? with
      | none => rw [ho] at hu; simp at hu
      | some o => rw [ho] at hu; simp only [Option.map_some, Option.some.injEq] at hu; subst hu; exact k4 j o ho
  refine (hl M0 W vl outs hv hlen (fun o ho => (h.houts o ho).1)).mono ?_
  rintro e W' ⟨u, rfl, hL, hb⟩
  have hB := h.below hb
  refine ⟨u, rfl, hb, hB.hy, hB.yr, hB.yg, hB.m0, hB.m, hB.mw, hB.heyes, hB.houts, hB.happ, hB.hvl, fun p hp => ?_⟩
  rcases List.mem_cons.1 hp with rfl | hp
  · exact ⟨W.heap.size, h.mw, hL⟩
  · exact hB.htolds p hp
end
end Go.Vt
namespace Go.Vt
open Go.RowKit

/-- What a call hands back. -/
structure Gave (P : Program) (e1 e2 : Nat) (tab : Nat → List CT) (n M0 : Nat) (W : World) (v : Value) (outs : List Out) : Prop where
  len : outs.length ≤ 100000
  houts : ∀ o ∈ outs, OutOK P e1 e2 tab n W M0 o
  happ : ∀ (i j : Nat) (oi oj : Out), i ≠ j → outs[i]? = some oi → outs[j]? = some oj → ∀ k, oi.G k → ¬ oj.G k
  hv : ∃ a cap g, v = .slice a outs.length cap ∧ (outs ≠ [] → a = some ⟨g, 0, none⟩ ∧ M0 ≤ g ∧ g < W.heap.size) ∧ (∀ o ∈ outs, ¬ o.G g) ∧ ∀ j o, outs[j]? = some o → W.cell? ⟨g, j, none⟩ = some o.val
/-- f reads what b holds, and hands back functions that show something new. -/
def CallOK (P : Program) (e1 e2 : Nat) (tab : Nat → List CT) (n : Nat) (f : FuncId) (cts : List CT) : Prop :=
  ∀ (F : Nat → Prop) (W : World) (b : Nat) (cs : List C), nodesRow cs ≤ limY → HtRow tab cts cs → RdRow F W b 0 cs → F b → (∀ k, F k → k < W.heap.size) →
    Calls P f #[.pointer (some ⟨b, 0, none⟩)] W fun e W' => ∃ v outs, e = .returned v ∧ Gave P e1 e2 tab n W.heap.size W' v outs ∧ Below W.heap.size W W'

/-- A new eye looks, and does not mark. -/
theorem see_plain {P : Program} {e1 e2 : Nat} {tab : Nat → List CT} {n : Nat} {f : FuncId} {cts : List CT} (hs : SeeOK P e1 e2 tab n f cts) {F : Nat → Prop} {W : World} {b be T : Nat} {cs : List C} {rm : Bool} (hn : nodesRow cs ≤ n) (hl : nodesRow cs ≤ limO) (ht : HtRow tab cts cs) (hr : RdRow F W b 0 cs) (hb : F b) (hF : ∀ k, F k → k < W.heap.size ∧ k ≠ be) (hroom : rm = true → RoomyRow cs) (hbe : W.heap[be]? = some (freshEye false rm 0 T)) (hnf : RfRow W b 0 cs) :
    Calls P f #[.pointer (some ⟨be, 0, none⟩), .pointer (some ⟨b, 0, none⟩)] W fun e W' => e = .returned (.tuple #[]) ∧ Below be W W' ∧ (∀ k, k < W.heap.size → k ≠ be → W'.heap[k]? = W.heap[k]?) ∧ ∃ ns ss B a, ns.length ≤ lim ∧ ss.length ≤ lim ∧ Eye e1 e2 W' be 0 B ns ss false a rm := by
  have hlt : be < W.heap.size := (Array.getElem?_eq_some_iff.1 hbe).1
  simp only [limO] at hl
  have hE : Eye e1 e2 W be 0 W.heap.size [] [] false 0 rm := ⟨_, _, ⟨_, T, hbe, rfl, rfl, rfl, rfl, rfl⟩, World.ownsRow_nil _ _ _ _, World.ownsRow_nil _ _ _ _, hlt⟩
  refine (hs false rm cs F W be 0 W.heap.size b 0 [] [] 0 hn ⟨ht, hb, hr, by simp, fun _ => hnf, hF, Nat.le_refl _, hE, hroom, by simp only [List.length_nil, lim]; omega, by simp only [List.length_nil, lim]; omega, Int.le_refl _, by simp only [lim]; omega⟩).mono ?_
  rintro e W' ⟨rfl, ns', ss', a', hS⟩
  have hkeep : ∀ k, k < W.heap.size → k ≠ be → W'.heap[k]? = W.heap[k]? := fun k hk hb => hS.chg.fr.block k hk (by
    rintro (rfl | h2 | ⟨h2, h3⟩)
    · exact hb rfl
    · omega
    · cases h2)
  have l1 := hS.ln; have l2 := hS.ls
  simp only [List.length_nil] at l1 l2
  exact ⟨rfl, ⟨hS.chg.fr.os, hS.chg.fr.tape, hS.chg.fr.output, hS.chg.fr.size, fun k hk => hkeep k (by omega) (by omega)⟩, hkeep, ns', ss', W.heap.size, a', by simp only [lim]; omega, by simp only [lim]; omega, hS.eye⟩

section
variable {P : Program} {e1 e2 T : Nat} {tab : Nat → List CT} {n : Nat}
/-- What is shown, as a thing. -/
def Yet (f b : Nat) (cts : List CT) (cs : List C) (B0 : Nat) (W : World) : Out := ⟨f, b, cts, cs, fun k => B0 ≤ k ∧ k ≤ b ∧ ∃ c e, W.heap[k]? = some (.cells c e (0, 0))⟩
theorem Stage.start {f B0 Ty : Nat} {cts : List CT} {cs0 cs : List C} {vs : List Value} {w2 W : World} (hs : SeeOK P e1 e2 tab n f cts) (hent : ∀ args w, (callFunc f args).run P w = .ok (.enter f args) w)
    (ho : OwnedRow tab cts cs0 cs vs B0 w2) (hn : nodesRow cs ≤ n) (hl : nodesRow cs ≤ limY) (hB0 : B0 ≤ w2.heap.size) (hW : Below w2.heap.size w2 W) (hsz : W.heap.size = w2.heap.size + 5) (hy : W.heap[w2.heap.size]? = some (.cells vs.toArray Ty (0, 0)))
    (he : ∀ j, j < 4 → W.heap[w2.heap.size + 1 + j]? = some (freshEye false true 0 T)) :
    Stage P e1 e2 T tab n B0 (w2.heap.size + 5) (w2.heap.size + 5) (Yet f w2.heap.size cts cs B0 W) (fun _ => none) [] (.slice none 0 0) [] W := by
  obtain ⟨k1, k2, k3, k4⟩ := OwnedRow.out _ _ _ _ ho
  have hG : ∀ k, Nw B0 w2 k → (B0 ≤ k ∧ k ≤ w2.heap.size ∧ ∃ c e, W.heap[k]? = some (.cells c e (0, 0))) ∧ W.heap[k]? = w2.heap[k]? := fun k ⟨g1, g2, c, e, g3⟩ => by
    have := hW.block k g2
    exact ⟨⟨g1, by omega, c, e, this.trans g3⟩, this⟩
  have hrd : RdVals (Yet f w2.heap.size cts cs B0 W).G W cs vs := RdVals.mono hG _ _ k4
  have hrow : RdRow (Yet f w2.heap.size cts cs B0 W).G W w2.heap.size 0 cs := RdVals.row cs vs 0 hrd (fun j u hu => by
    rw [Nat.zero_add, cell_of_row _ _ _ _ _ _ hy]; simpa using hu)
  refine ⟨⟨hs, hent, k1, hrow, ⟨hB0, Nat.le_refl _, _, _, hy⟩, fun k hk => ⟨hk.1, by have := hk.2.1; show k < W.heap.size; omega, hk.2.2⟩, hn, Nat.le_trans hl (by decide)⟩, ⟨k2, hl⟩, fun k hk => hk.2.1, Nat.le_refl _, Nat.le_refl _, by omega, fun j hj => he j hj, by simp, by simp, ⟨none, 0, 0, rfl, by simp, by simp, by simp⟩, by simp⟩
variable {B0 M0 M : Nat} {y : Out} {eyes : Nat → Option Obs} {vl : Value} {W W' : World}
/-- The call. -/
theorem Stage.call (h : Stage P e1 e2 T tab n B0 M0 M y eyes [] vl [] W) {f : FuncId} (hc : CallOK P e1 e2 tab n f y.cts) :
    Calls P f #[.pointer (some ⟨y.b, 0, none⟩)] W fun e W' => ∃ v outs M1 M2, e = .returned v ∧ Below W.heap.size W W' ∧ outs.length ≤ 100000 ∧ Stage P e1 e2 T tab n B0 M1 M2 y eyes outs v [] W' := by
  have hm0 := h.m0; have hm := h.m; have hmw := h.mw
  refine (hc y.G W y.b y.cs h.yr.2 h.hy.ht h.hy.rd h.hy.gb (fun k hk => (h.hy.g k hk).2.1)).mono ?_
  rintro e W' ⟨v, outs, rfl, hg, hb⟩
  have hs := hb.size
  refine ⟨v, outs, W.heap.size, W'.heap.size, rfl, hb, hg.len, h.hy.keep hs (fun k hk' => hb.block k (h.hy.g k hk').2.1), h.yr, h.yg, by omega, hs, Nat.le_refl _, fun j hj => ?_, fun o ho => ⟨hg.houts o ho, fun k hk => ((hg.houts o ho).g k hk).2.1⟩, hg.happ, hg.hv, by simp⟩
  have := h.heyes j hj
  revert this
  cases eyes j with
  | none => exact fun he => (hb.block _ (by omega)).trans he
  | some o =>
    rintro ⟨h1, h2, B, U, a, k1, k2, k3, k4, k5⟩
    exact ⟨h1, h2, B, U, a, k1, by omega, .inl k2, by omega, k5.keep (hb.block _ (by omega)) (fun g _ hu => hb.block g (by omega))⟩
variable {outs : List Out} {tolds : List (Value × List Obs)}
/-- An eye that has looked, by value. -/
theorem Stage.eye (h : Stage P e1 e2 T tab n B0 M0 M y eyes outs vl tolds W) (j : Nat) (hj : j < 4) {o : Obs} (ho : eyes j = some o) : ∃ nv sv a, W.cell? ⟨y.b + 1 + j, 0, none⟩ = some nv ∧ W.cell? ⟨y.b + 1 + j, 1, none⟩ = some sv ∧ W.cell? ⟨y.b + 1 + j, 2, none⟩ = some (.bool false) ∧ W.cell? ⟨y.b + 1 + j, 3, none⟩ = some (.int .i64 a) ∧ W.cell? ⟨y.b + 1 + j, 4, none⟩ = some (.bool true) ∧ EyeR W (.agg #[nv, sv, .bool false, .int .i64 a, .bool true]) o.1 o.2 := by
  have := h.heyes j hj
  rw [ho] at this
  obtain ⟨h1, h2, B, U, a, _, _, _, _, nv, sv, k5, _⟩ := this
  obtain ⟨nv, sv, q0, q1, q2, q3, q4, q5⟩ := Eye.read ⟨nv, sv, k5⟩ h1 h2
  exact ⟨nv, sv, a, q0, by simpa using q1, by simpa using q2, by simpa using q3, by simpa using q4, q5⟩
theorem Stage.forget (h : Stage P e1 e2 T tab n B0 M0 M y eyes outs vl tolds W) : Stage P e1 e2 T tab n B0 M0 M y eyes outs vl [] W :=
  ⟨h.hy, h.yr, h.yg, h.m0, h.m, h.mw, h.heyes, h.houts, h.happ, h.hvl, by simp⟩
theorem Stage.form (h : Stage P e1 e2 T tab n B0 M0 M y eyes outs vl tolds W) : ∃ a cap g, vl = .slice a outs.length cap ∧ ∀ j o, outs[j]? = some o → a = some ⟨g, 0, none⟩ ∧ W.cell? ⟨g, j, none⟩ = some (.func (.func o.f) #[] #[.pointer (some ⟨o.b, 0, none⟩)]) := by
  obtain ⟨a, cap, g, k1, k2, _, k4⟩ := h.hvl
  exact ⟨a, cap, g, k1, fun j o ho => ⟨(k2 (by intro e; subst e; simp at ho)).1, k4 j o ho⟩⟩
def ApartOK (P : Program) (e1 e2 : Nat) (tab : Nat → List CT) (f own see : FuncId) (cts : List CT) : Prop :=
  ∀ (F : Nat → Prop) (w : World) (vs : List Value) (cs : List C) (vc : Value) (fs : List FuncId), nodesRow cs ≤ 1073741824 → HtRow tab cts cs → RdVals F w cs vs → RfVals w cs vs → (∀ k, F k → k < w.heap.size) → ReadsAt w vc (fs.map fun f => .func (.func f) #[] #[]) → fs.length ≤ 1000 →
    (∀ f ∈ fs, CallOK P e1 e2 tab limO f cts ∧ ∀ args w, (callFunc f args).run P w = .ok (.enter f args) w) →
    Calls P f #[.agg vs.toArray, .func (.func own) #[] #[], .func (.func see) #[] #[], vc] w fun e w' => e = .returned (.bool true) ∧ Below w.heap.size w w'
theorem five (w : World) (Y E : Obj) : Below w.heap.size w (((((w.alloc Y).alloc E).alloc E).alloc E).alloc E) ∧ (((((w.alloc Y).alloc E).alloc E).alloc E).alloc E).heap.size = w.heap.size + 5 ∧
    (((((w.alloc Y).alloc E).alloc E).alloc E).alloc E).heap[w.heap.size]? = some Y ∧ ∀ j, j < 4 → (((((w.alloc Y).alloc E).alloc E).alloc E).alloc E).heap[w.heap.size + 1 + j]? = some E := by
  have n1 := heap_alloc_new w Y
  have n2 := heap_alloc_new (w.alloc Y) E
  have n3 := heap_alloc_new ((w.alloc Y).alloc E) E
  have n4 := heap_alloc_new (((w.alloc Y).alloc E).alloc E) E
  have n5 := heap_alloc_new ((((w.alloc Y).alloc E).alloc E).alloc E) E
  simp only [alloc_size'] at n2 n3 n4 n5
  have o2 := fun k (h : k < w.heap.size + 1) => Below.heap_alloc (w.alloc Y) E k (by simp only [alloc_size']; exact h)
  have o3 := fun k (h : k < w.heap.size + 2) => Below.heap_alloc ((w.alloc Y).alloc E) E k (by simp only [alloc_size']; omega)
  have o4 := fun k (h : k < w.heap.size + 3) => Below.heap_alloc (((w.alloc Y).alloc E).alloc E) E k (by simp only [alloc_size']; omega)
  have o5 := fun k (h : k < w.heap.size + 4) => Below.heap_alloc ((((w.alloc Y).alloc E).alloc E).alloc E) E k (by simp only [alloc_size']; omega)
  refine ⟨(((((Below.refl _ _).alloc (Nat.le_refl _) _).alloc (by simp only [alloc_size']; omega) _).alloc (by simp only [alloc_size']; omega) _).alloc (by simp only [alloc_size']; omega) _).alloc (by simp only [alloc_size']; omega) _, by simp only [alloc_size'], ?_, fun j hj => ?_⟩
  · rw [o5 _ (by omega), o4 _ (by omega), o3 _ (by omega), o2 _ (by omega)]; exact n1
  · have : j = 0 ∨ j = 1 ∨ j = 2 ∨ j = 3 := by omega
    rcases this with rfl | rfl | rfl | rfl
    · rw [o5 _ (by omega), o4 _ (by omega), o3 _ (by omega)]; exact n2
    · rw [o5 _ (by omega), o4 _ (by omega)]; exact n3
    · rw [o5 _ (by omega)]; exact n4
    · exact n5
end
end Go.Vt
