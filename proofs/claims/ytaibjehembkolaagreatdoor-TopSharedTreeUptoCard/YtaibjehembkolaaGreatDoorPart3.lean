/- The stages of one turn of the law: what lies where, and what is kept. -/
import Derived.Test.YtaibjehembkolaaGreatDoorPart2
namespace Go.Vt
open Go.RowKit

/-- What a look at one thing does, through a new eye at block be. -/
structure Saw (P : Program) (e1 e2 : Nat) (tab : Nat → List CT) (n L : Nat) (mk rm : Bool) (be : Nat) (o : Out) (W W' : World) : Prop where
  os : W'.os = W.os
  tape : W'.tape = W.tape
  output : W'.output = W.output
  size : W.heap.size ≤ W'.heap.size
  keep : ∀ k, k < W.heap.size → k ≠ be → (mk = true → ¬ o.G k) → W'.heap[k]? = W.heap[k]?
  eye : mk = false → (obsNRow rm o.cs).length ≤ lim ∧ (obsSRow rm o.cs).length ≤ lim ∧ ∃ a, Eye e1 e2 W' be 0 W.heap.size (obsNRow rm o.cs) (obsSRow rm o.cs) false a rm
  out : ∃ cs', (mk = false → cs' = o.cs) ∧ (RoomyRow o.cs ∧ nodesRow o.cs ≤ limY → RoomyRow cs' ∧ nodesRow cs' ≤ limY) ∧ OutOK P e1 e2 tab n W' L { o with cs := cs' }
def freshEye (mk rm : Bool) (a : Int) (T : Nat) : Obj := .cells #[.slice none 0 0, .slice none 0 0, .bool mk, .int .i64 a, .bool rm] T (0, 0)
theorem OutOK.sees {P : Program} {e1 e2 : Nat} {tab : Nat → List CT} {n L : Nat} {W : World} {o : Out} (h : OutOK P e1 e2 tab n W L o) (mk rm : Bool) (hr : rm = true → RoomyRow o.cs) {be T : Nat} {a : Int} (hbe : W.heap[be]? = some (freshEye mk rm a T)) (hG : ¬ o.G be) (ha0 : 0 ≤ a) (ha : a ≤ 274877906944) :
    Calls P o.f #[.pointer (some ⟨be, 0, none⟩), .pointer (some ⟨o.b, 0, none⟩)] W fun e W' => e = .returned (.tuple #[]) ∧ Saw P e1 e2 tab n L mk rm be o W W' := by
  have hlt : be < W.heap.size := (Array.getElem?_eq_some_iff.1 hbe).1
  have hnl := h.nl
  simp only [limO] at hnl
  have hE : Eye e1 e2 W be 0 W.heap.size [] [] mk a rm := ⟨_, _, ⟨_, T, hbe, rfl, rfl, rfl, rfl, rfl⟩, World.ownsRow_nil _ _ _ _, World.ownsRow_nil _ _ _ _, hlt⟩
  have hpre : SeePre e1 e2 tab o.cts mk rm o.cs o.G W be 0 W.heap.size o.b 0 [] [] a :=
    ⟨h.ht, h.gb, h.rd, fun _ k hk => (h.g k hk).2.2, fun k hk => ⟨(h.g k hk).2.1, fun e => hG (e ▸ hk)⟩, Nat.le_refl _, hE, hr, by simp only [List.length_nil, lim]; omega, by simp only [List.length_nil, lim]; omega, ha0, by simp only [lim]; omega⟩
  refine (h.see mk rm o.cs o.G W be 0 W.heap.size o.b 0 [] [] a h.nn hpre).mono ?_
  rintro e W' ⟨rfl, ns', ss', a', hS⟩
  obtain ⟨cs', m1, m2, m3⟩ := Rd.chgMk hS.chg.chg h.gb h.rd
  have hkeep : ∀ k, k < W.heap.size → k ≠ be → (mk = true → ¬ o.G k) → W'.heap[k]? = W.heap[k]? := fun k hk hb hm => hS.chg.fr.block k hk (by
    rintro (rfl | h2 | ⟨h2, h3⟩)
    · exact hb rfl
    · omega
    · exact hm h2 h3)
  have l1 := hS.ln; have l2 := hS.ls
  simp only [List.length_nil] at l1 l2
  refine ⟨rfl, hS.chg.fr.os, hS.chg.fr.tape, hS.chg.fr.output, hS.chg.fr.size, hkeep, fun hm => ?_, cs', m2, fun h => ⟨MkRow.roomy _ _ m1 h.1, by rw [MkRow.nodes _ _ m1]; exact h.2⟩, ?_⟩
  · obtain ⟨s1, s2, _⟩ := hS.same hm
    simp only [List.nil_append] at s1 s2
    subst s1 s2
    subst hm
    exact ⟨by simp only [lim]; omega, by simp only [lim]; omega, a', hS.eye⟩
  · have hn := MkRow.nodes _ _ m1
    refine ⟨h.see, h.enter, MkRow.ht _ _ _ m1 h.ht, m3, h.gb, fun k hk => ?_, by show nodesRow cs' ≤ n; rw [hn]; exact h.nn, by show nodesRow cs' ≤ limO; rw [hn]; exact h.nl⟩
    obtain ⟨g1, g2, g3⟩ := h.g k hk
    refine ⟨g1, Nat.lt_of_lt_of_le g2 hS.chg.fr.size, ?_⟩
    cases mk with
    | false =>
      obtain ⟨c, e, g3⟩ := g3
      exact ⟨c, e, (hkeep k g2 (fun e => hG (e ▸ hk)) (by simp)).trans g3⟩
    | true =>
      have := hS.chg.chg k hk
      rw [if_pos rfl] at this
      exact this.blk

/-- An eye that has looked: its lists lie in the blocks from B on, below U. -/
def EyeU (e1 e2 : Nat) (W : World) (be B U : Nat) (ns : List Int) (ss : List ByteArray) (a : Int) : Prop :=
  ∃ nv sv, EyeV e1 e2 W be 0 B nv sv ns ss false a true ∧ ∀ k, nv.ownBlock = some k ∨ sv.ownBlock = some k → k < U
theorem EyeU.of {e1 e2 : Nat} {W : World} {be B : Nat} {ns : List Int} {ss : List ByteArray} {a : Int} (h : Eye e1 e2 W be 0 B ns ss false a true) : EyeU e1 e2 W be B W.heap.size ns ss a := by
  obtain ⟨nv, sv, hv⟩ := h
  exact ⟨nv, sv, hv, fun k hk => hk.elim (fun h => (hv.rowN.lt k h).2) (fun h => (hv.rowS.lt k h).2)⟩
theorem ownsRow_keepU {w w' : World} {B e n : Nat} {v : Value} {xs : List Value} (h : w.ownsRow B e 1 v n xs) (hb : ∀ g, B ≤ g → v.ownBlock = some g → w'.heap[g]? = w.heap[g]?) : w'.ownsRow B e 1 v n xs := by
  refine ⟨h.1, ?_⟩
  rcases h.2 with hn | ⟨g, cap, cur, rfl, hB, hg, rest⟩
  · exact .inl hn
  · exact .inr ⟨g, cap, cur, rfl, hB, (hb g hB rfl).trans hg, rest⟩
theorem EyeU.keep {e1 e2 : Nat} {W W' : World} {be B U : Nat} {ns : List Int} {ss : List ByteArray} {a : Int} (h : EyeU e1 e2 W be B U ns ss a) (h0 : W'.heap[be]? = W.heap[be]?) (hb : ∀ g, B ≤ g → g < U → W'.heap[g]? = W.heap[g]?) : EyeU e1 e2 W' be B U ns ss a := by
  obtain ⟨nv, sv, hv, hu⟩ := h
  obtain ⟨c, e, h1, r⟩ := hv.blk
  exact ⟨nv, sv, ⟨⟨c, e, h0.trans h1, r⟩, ownsRow_keepU hv.rowN (fun g hB hg => hb g hB (hu g (.inl hg))), ownsRow_keepU hv.rowS (fun g hB hg => hb g hB (hu g (.inr hg))), hv.lt⟩, hu⟩

abbrev Obs := List Int × List ByteArray
/-- An eye of a round: it is new, or it has looked. M0, M: between them lies what the call has made. -/
def EyeAt (e1 e2 T L M0 M : Nat) (W : World) (be : Nat) : Option Obs → Prop
  | none => W.heap[be]? = some (freshEye false true 0 T)
  | some o => o.1.length ≤ lim ∧ o.2.length ≤ lim ∧ ∃ B U a, L ≤ B ∧ U ≤ W.heap.size ∧ (U ≤ M0 ∨ M ≤ B) ∧ be < W.heap.size ∧ EyeU e1 e2 W be B U o.1 o.2 a
theorem EyeAt.keep {e1 e2 T L M0 M : Nat} {W W' : World} {be : Nat} : ∀ (s : Option Obs), EyeAt e1 e2 T L M0 M W be s → W.heap.size ≤ W'.heap.size → W'.heap[be]? = W.heap[be]? → (∀ k, L ≤ k → k < W.heap.size → (k < M0 ∨ M ≤ k) → W'.heap[k]? = W.heap[k]?) → EyeAt e1 e2 T L M0 M W' be s
  | none, h, _, h0, _ => h0.trans h
  | some o, ⟨h1, h2, B, U, a, k1, k2, k3, k4, k5⟩, hs, h0, hb =>
    ⟨h1, h2, B, U, a, k1, by omega, k3, by omega, k5.keep h0 (fun g hg hu => hb g (by omega) (by omega) (by omega))⟩

/-- Where a round stands. -/
structure Stage (P : Program) (e1 e2 T : Nat) (tab : Nat → List CT) (n : Nat) (B0 M0 M : Nat) (y : Out) (eyes : Nat → Option Obs) (outs : List Out) (vl : Value) (tolds : List (Value × List Obs)) (W : World) : Prop where
  hy : OutOK P e1 e2 tab n W B0 y
  yr : RoomyRow y.cs ∧ nodesRow y.cs ≤ limY
  yg : ∀ k, y.G k → k ≤ y.b
  m0 : y.b + 5 ≤ M0
  m : M0 ≤ M
  mw : M ≤ W.heap.size
  heyes : ∀ j, j < 4 → EyeAt e1 e2 T (y.b + 5) M0 M W (y.b + 1 + j) (eyes j)
  houts : ∀ o ∈ outs, OutOK P e1 e2 tab n W M0 o ∧ ∀ k, o.G k → k < M
  happ : ∀ (i j : Nat) (oi oj : Out), i ≠ j → outs[i]? = some oi → outs[j]? = some oj → ∀ k, oi.G k → ¬ oj.G k
  hvl : ∃ a cap g, vl = .slice a outs.length cap ∧ (outs ≠ [] → a = some ⟨g, 0, none⟩ ∧ M0 ≤ g ∧ g < M) ∧ (∀ o ∈ outs, ¬ o.G g) ∧ ∀ j o, outs[j]? = some o → W.cell? ⟨g, j, none⟩ = some o.val
  htolds : ∀ p ∈ tolds, ∃ L, M ≤ L ∧ Looks e1 e2 L W p.1 p.2

section
variable {P : Program} {e1 e2 T : Nat} {tab : Nat → List CT} {n B0 M0 M : Nat} {y : Out} {eyes : Nat → Option Obs} {outs : List Out} {vl : Value} {tolds : List (Value × List Obs)} {W W' : World}
theorem out_cell {W W' : World} {g j : Nat} {u : Value} (h : W.cell? ⟨g, j, none⟩ = some u) (hb : W'.heap[g]? = W.heap[g]?) : W'.cell? ⟨g, j, none⟩ = some u := (World.cell?_of_block (w := W) hb).trans h
/-- Something new is made; all that lies stays. -/
theorem Stage.below (h : Stage P e1 e2 T tab n B0 M0 M y eyes outs vl tolds W) (hb : Below W.heap.size W W') : Stage P e1 e2 T tab n B0 M0 M y eyes outs vl tolds W' := by
  have hm0 := h.m0; have hm := h.m; have hmw := h.mw; have hs := hb.size
  have hk : ∀ k, k < W.heap.size → W'.heap[k]? = W.heap[k]? := hb.block
  refine ⟨h.hy.keep hs (fun k hk' => hk k (h.hy.g k hk').2.1), h.yr, h.yg, hm0, hm, by omega, fun j hj => EyeAt.keep _ (h.heyes j hj) hs (hk _ (by omega)) (fun k _ hl _ => hk k hl), fun o ho => ⟨(h.houts o ho).1.keep hs (fun k hk' => hk k ((h.houts o ho).1.g k hk').2.1), (h.houts o ho).2⟩, h.happ, ?_, fun p hp => ?_⟩
  · obtain ⟨a, cap, g, k1, k2, k3, k4⟩ := h.hvl
    refine ⟨a, cap, g, k1, k2, k3, fun j o ho => out_cell (k4 j o ho) (hk g ?_)⟩
    have := (k2 (by intro e; subst e; simp at ho)).2.2; omega
  · obtain ⟨L, k1, k2⟩ := h.htolds p hp
    exact ⟨L, k1, k2.keep hs (fun k _ hl => hk k hl)⟩
/-- Eye j looks at y. -/
theorem Stage.see (h : Stage P e1 e2 T tab n B0 M0 M y eyes outs vl tolds W) (j : Nat) (hj : j < 4) (hf : eyes j = none) :
    Calls P y.f #[.pointer (some ⟨y.b + 1 + j, 0, none⟩), .pointer (some ⟨y.b, 0, none⟩)] W fun e W' => e = .returned (.tuple #[]) ∧ Below (y.b + 1) W W' ∧ Stage P e1 e2 T tab n B0 M0 M y (fun i => if i = j then some (obsNRow true y.cs, obsSRow true y.cs) else eyes i) outs vl tolds W' := by
  have hm0 := h.m0; have hm := h.m; have hmw := h.mw
  have he := h.heyes j hj
  rw [hf] at he
  refine (h.hy.sees false true (fun _ => h.yr.1) he (fun hg => by have := h.yg _ hg; omega) (Int.le_refl _) (by decide)).mono ?_
  rintro e W' ⟨rfl, hS⟩
  have hs := hS.size
  have hk : ∀ k, k < W.heap.size → k ≠ y.b + 1 + j → W'.heap[k]? = W.heap[k]? := fun k h1 h2 => hS.keep k h1 h2 (by simp)
  refine ⟨rfl, ⟨hS.os, hS.tape, hS.output, hs, fun k hk' => hk k (by omega) (by omega)⟩, ?_⟩
  obtain ⟨q1, q2, a, q3⟩ := hS.eye rfl
  obtain ⟨cs', r1, _, r3⟩ := hS.out
  have r1 := r1 rfl
  subst r1
  refine ⟨r3, h.yr, h.yg, hm0, hm, by omega, fun i hi => ?_, fun o ho => ⟨(h.houts o ho).1.keep hs (fun k hk' => hk k ((h.houts o ho).1.g k hk').2.1 (by have := ((h.houts o ho).1.g k hk').1; omega)), (h.houts o ho).2⟩, h.happ, ?_, fun p hp => ?_⟩
  · by_cases hij : i = j
    · subst hij
      rw [if_pos rfl]
      exact ⟨q1, q2, W.heap.size, W'.heap.size, a, by omega, Nat.le_refl _, .inr (by omega), by omega, EyeU.of q3⟩
    · rw [if_neg hij]
      exact EyeAt.keep _ (h.heyes i hi) hs (hk _ (by omega) (by omega)) (fun k hk1 hk2 _ => hk k hk2 (by omega))
  · obtain ⟨a, cap, g, k1, k2, k3, k4⟩ := h.hvl
    refine ⟨a, cap, g, k1, k2, k3, fun j' o ho => out_cell (k4 j' o ho) (hk g ?_ ?_)⟩
    · have := (k2 (by intro e; subst e; simp at ho)).2.2; omega
    · have := (k2 (by intro e; subst e; simp at ho)).2.1; omega
  · obtain ⟨L, k1, k2⟩ := h.htolds p hp
    exact ⟨L, k1, k2.keep hs (fun k hk1 hk2 => hk k hk2 (by omega))⟩
/-- A new eye that marks looks at y. -/
theorem Stage.poke (h : Stage P e1 e2 T tab n B0 M0 M y eyes outs vl tolds W) {X : Obj} (hX : X = freshEye true true 0 T) :
    Calls P y.f #[.pointer (some ⟨W.heap.size, 0, none⟩), .pointer (some ⟨y.b, 0, none⟩)] (W.alloc X) fun e W' => e = .returned (.tuple #[]) ∧ Below B0 W W' ∧ ∃ cs', Stage P e1 e2 T tab n B0 M0 M { y with cs := cs' } eyes outs vl tolds W' := by
  have hm0 := h.m0; have hm := h.m; have hmw := h.mw
  subst hX
  have ha : Below W.heap.size W (W.alloc (freshEye true true 0 T)) := (Below.refl _ _).alloc (Nat.le_refl _) _
  have hy := h.hy.keep ha.size (fun k hk' => ha.block k (h.hy.g k hk').2.1)
  refine (hy.sees true true (fun _ => h.yr.1) (heap_alloc_new W _) (fun hg => by have := h.yg _ hg; omega) (Int.le_refl _) (by decide)).mono ?_
  rintro e W' ⟨rfl, hS⟩
  have hs : W.heap.size ≤ W'.heap.size := Nat.le_trans ha.size hS.size
  have hk : ∀ k, k < W.heap.size → ¬ y.G k → W'.heap[k]? = W.heap[k]? := fun k h1 h2 => (hS.keep k (Nat.lt_of_lt_of_le h1 ha.size) (by omega) (fun _ => h2)).trans (ha.block k h1)
  have hB : B0 ≤ y.b := (h.hy.g _ h.hy.gb).1
  refine ⟨rfl, ⟨hS.os.trans ha.os, hS.tape.trans ha.tape, hS.output.trans ha.output, hs, fun k hk' => hk k (by omega) (fun hg => by have := (h.hy.g k hg).1; omega)⟩, ?_⟩
  obtain ⟨cs', _, r2, r3⟩ := hS.out
  have far : ∀ k, y.b < k → ¬ y.G k := fun k hk' hg => by have := h.yg k hg; omega
  have hyb : ({ y with cs := cs' } : Out).b = y.b := rfl
  refine ⟨cs', r3, r2 h.yr, h.yg, hm0, hm, by omega, fun i hi => EyeAt.keep _ (h.heyes i hi) hs (hk _ (by rw [hyb]; omega) (far _ (by rw [hyb]; omega))) (fun k hk1 hk2 _ => hk k hk2 (far _ (by rw [hyb] at hk1; omega))), fun o ho => ⟨(h.houts o ho).1.keep hs (fun k hk' => hk k ((h.houts o ho).1.g k hk').2.1 (far _ (by have := ((h.houts o ho).1.g k hk').1; omega))), (h.houts o ho).2⟩, h.happ, ?_, fun p hp => ?_⟩
  · obtain ⟨a, cap, g, k1, k2, k3, k4⟩ := h.hvl
    refine ⟨a, cap, g, k1, k2, k3, fun j' o ho => out_cell (k4 j' o ho) (hk g ?_ (far _ ?_))⟩
    · have := (k2 (by intro e; subst e; simp at ho)).2.2; omega
    · have := (k2 (by intro e; subst e; simp at ho)).2.1; omega
  · obtain ⟨L, k1, k2⟩ := h.htolds p hp
    exact ⟨L, k1, k2.keep hs (fun k hk1 hk2 => hk k hk2 (far _ (by omega)))⟩
/-- A new eye that marks looks at what has come back at place i. -/
theorem Stage.pokeOut (h : Stage P e1 e2 T tab n B0 M0 M y eyes outs vl tolds W) {i : Nat} {o : Out} (ho : outs[i]? = some o) {X : Obj} {a : Int} (hX : X = freshEye true false a T) (h0 : 0 ≤ a) (h1 : a ≤ 274877906944) :
    Calls P o.f #[.pointer (some ⟨W.heap.size, 0, none⟩), .pointer (some ⟨o.b, 0, none⟩)] (W.alloc X) fun e W' => e = .returned (.tuple #[]) ∧ Below M0 W W' ∧ ∃ cs', Stage P e1 e2 T tab n B0 M0 M y eyes (outs.set i { o with cs := cs' }) vl tolds W' := by
  have hm0 := h.m0; have hm := h.m; have hmw := h.mw
  subst hX
  have hmem := List.mem_of_getElem? ho
  have hlt := (List.getElem?_eq_some_iff.1 ho).1
  obtain ⟨hok, hoM⟩ := h.houts o hmem
  have ha : Below W.heap.size W (W.alloc (freshEye true false a T)) := (Below.refl _ _).alloc (Nat.le_refl _) _
  have hy := hok.keep ha.size (fun k hk' => ha.block k (hok.g k hk').2.1)
  refine (hy.sees true false (by simp) (heap_alloc_new W _) (fun hg => by have := (hok.g _ hg).2.1; omega) h0 h1).mono ?_
  rintro e W' ⟨rfl, hS⟩
  have hs : W.heap.size ≤ W'.heap.size := Nat.le_trans ha.size hS.size
  have hk : ∀ k, k < W.heap.size → ¬ o.G k → W'.heap[k]? = W.heap[k]? := fun k h1 h2 => (hS.keep k (Nat.lt_of_lt_of_le h1 ha.size) (by omega) (fun _ => h2)).trans (ha.block k h1)
  have far : ∀ k, (k < M0 ∨ M ≤ k) → ¬ o.G k := fun k hk' hg => by have := (hok.g k hg).1; have := hoM k hg; omega
  refine ⟨rfl, ⟨hS.os.trans ha.os, hS.tape.trans ha.tape, hS.output.trans ha.output, hs, fun k hk' => hk k (by omega) (far k (by omega))⟩, ?_⟩
  obtain ⟨cs', _, _, r3⟩ := hS.out
  have hset : ∀ j, (outs.set i { o with cs := cs' })[j]? = if j = i then some { o with cs := cs' } else outs[j]? := fun j => by
    rw [List.getElem?_set]
    by_cases hji : j = i
    · subst hji; simp [hlt]
    · rw [if_neg (fun e => hji e.symm), if_neg hji]
  refine ⟨cs', h.hy.keep hs (fun k hk' => hk k (h.hy.g k hk').2.1 (far k (by have := h.yg k hk'; omega))), h.yr, h.yg, hm0, hm, by omega, fun j hj => EyeAt.keep _ (h.heyes j hj) hs (hk _ (by omega) (far _ (by omega))) (fun k _ hk2 hk3 => hk k hk2 (far _ hk3)), fun o' ho' => ?_, fun p q op oq hpq hp hq => ?_, ?_, fun p hp => ?_⟩
  · obtain ⟨j, hj⟩ := List.getElem?_of_mem ho'
    rw [hset] at hj
    by_cases hji : j = i
    · rw [if_pos hji] at hj; injection hj with hj; subst hj; exact ⟨r3, hoM⟩
    · rw [if_neg hji] at hj
      have hm' := List.mem_of_getElem? hj
      exact ⟨(h.houts o' hm').1.keep hs (fun k hk' => hk k ((h.houts o' hm').1.g k hk').2.1 (h.happ j i o' o hji hj ho k hk')), (h.houts o' hm').2⟩
  · rw [hset] at hp hq
    by_cases hpi : p = i
    · rw [if_pos hpi] at hp; injection hp with hp; subst hp
      rw [if_neg (by omega)] at hq
      exact h.happ p q o oq hpq (by rw [hpi]; exact ho) hq
    · rw [if_neg hpi] at hp
      by_cases hqi : q = i
      · rw [if_pos hqi] at hq; injection hq with hq; subst hq
        exact h.happ p q op o hpq hp (by rw [hqi]; exact ho)
      · rw [if_neg hqi] at hq
        exact h.happ p q op oq hpq hp hq
  · obtain ⟨a, cap, g, k1, k2, k3, k4⟩ := h.hvl
    have hne : outs ≠ [] := by intro e; subst e; simp at hlt
    refine ⟨a, cap, g, by rw [List.length_set]; exact k1, fun _ => k2 hne, fun o' ho' => ?_, fun j o' ho' => ?_⟩
    · obtain ⟨j, hj⟩ := List.getElem?_of_mem ho'
      rw [hset] at hj
      by_cases hji : j = i
      · rw [if_pos hji] at hj; injection hj with hj; subst hj; exact k3 o hmem
      · rw [if_neg hji] at hj; exact k3 o' (List.mem_of_getElem? hj)
    · have hb : W'.heap[g]? = W.heap[g]? := hk g (by have := (k2 hne).2.2; omega) (k3 o hmem)
      rw [hset] at ho'
      by_cases hji : j = i
      · rw [if_pos hji] at ho'; injection ho' with ho'; subst ho'; subst hji; exact out_cell (k4 j o ho) hb
      · rw [if_neg hji] at ho'; exact out_cell (k4 j o' ho') hb
  · obtain ⟨L, k1, k2⟩ := h.htolds p hp
    exact ⟨L, k1, k2.keep hs (fun k hk1 hk2 => hk k hk2 (far _ (by omega)))⟩
/-- What has come back is looked at. -/
theorem Stage.look (h : Stage P e1 e2 T tab n B0 M0 M y eyes outs vl tolds W) {f : FuncId} (hl : LookOK P e1 e2 tab n f) (hlen : outs.length ≤ 100000) :
    Calls P f #[vl] W fun e W' => ∃ u, e = .returned u ∧ Below W.heap.size W W' ∧ Stage P e1 e2 T tab n B0 M0 M y eyes outs vl ((u, outs.map Out.obs) :: tolds) W' := by
  have hv : ReadsAt W vl (outs.map Out.val) := by
    obtain ⟨a, cap, g, k1, k2, _, k4⟩ := h.hvl
    refine ⟨a, cap, g, by rw [List.length_map]; exact k1, fun hne => ?_, fun j u hu => ?_⟩
    · have := k2 (by intro e; subst e; simp at hne)
      exact ⟨this.1, by have := h.mw; omega⟩
    · rw [List.getElem?_map] at hu
      cases ho : outs[j]? with
      | none => rw [ho] at hu; simp at hu
      | some o => rw [ho] at hu; simp only [Option.map_some, Option.some.injEq] at hu; subst hu; exact k4 j o ho
  refine (hl M0 W vl outs hv hlen (fun o ho => (h.houts o ho).1)).mono ?_
  rintro e W' ⟨u, rfl, hL, hb⟩
  have hB := h.below hb
  refine ⟨u, rfl, hb, hB.hy, hB.yr, hB.yg, hB.m0, hB.m, hB.mw, hB.heyes, hB.houts, hB.happ, hB.hvl, fun p hp => ?_⟩
  rcases List.mem_cons.1 hp with rfl | hp
  · exact ⟨W.heap.size, h.mw, hL⟩
  · exact hB.htolds p hp
end
end Go.Vt
