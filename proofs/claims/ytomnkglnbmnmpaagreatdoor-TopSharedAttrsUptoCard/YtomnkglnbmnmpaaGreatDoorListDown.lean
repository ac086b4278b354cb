/- order.List: the numbers of a node and of all that are below it, in new memory. -/
import Derived.Test.YtomnkglnbmnmpaaGreatDoorAbove
import Derived.Test.YtomnkglnbmnmpaaGreatDoorBeside
import Derived.WalkKit
import Derived.WalkSpells
import Derived.WalkLawsBesides
import Derived.Deep.AppendLies
import Derived.Laws.EntriesVeiled
namespace Go.Proofs.YtomnkglnbmnmpaaGreatDoor
open Go.RowKit Go.Vt Go.Proofs
/-- x is k, or below k. -/
inductive Und (rows : List (List C)) (len : Nat) (k : Nat) : Nat → Prop where
  | here : Und rows len k k
  | step {x y : Nat} : x < len → par rows x = (y : Int) → Und rows len k y → Und rows len k x
section
variable {rows : List (List C)} {len : Nat}
theorem Good.deep (hG : Good rows len) {x y : Nat} (hx : x < len) (h : par rows x = (y : Int)) : chainN rows (len + 1) y < chainN rows (len + 1) x := by
  have := (Ends.step (m := len) (hG.en x hx)).2
  rwa [h] at this
theorem Und.deep (hG : Good rows len) {k x : Nat} (h : Und rows len k x) : chainN rows (len + 1) k ≤ chainN rows (len + 1) x := by
  induction h with
  | here => exact Nat.le_refl _
  | step hx hp _ ih => have := hG.deep hx hp; omega
theorem Und.of_kid {k c x : Nat} (hc : c < len) (hp : par rows c = (k : Int)) (h : Und rows len c x) : Und rows len k x := by
  induction h with
  | here => exact .step hc hp .here
  | step hx hy _ ih => exact .step hx hy ih
theorem Und.not_up (hG : Good rows len) {k c : Nat} (hc : c < len) (hp : par rows c = (k : Int)) : ¬ Und rows len c k := fun h => by
  have h1 := h.deep hG
  have h2 := hG.deep hc hp
  omega
theorem Und.apart (hG : Good rows len) {k c d x : Nat} (hc : c < len) (hpc : par rows c = (k : Int)) (hd : d < len) (hpd : par rows d = (k : Int)) (hne : c ≠ d) (h1 : Und rows len c x) : ¬ Und rows len d x := by
  induction h1 with
  | here =>
    intro h2
    cases h2 with
    | here => exact hne rfl
    | step hx hy h3 =>
      rw [hpc] at hy
      obtain rfl := Int.natCast_inj.1 hy
      exact Und.not_up hG hd hpd h3
  | step hx hy h1' ih =>
    intro h2
    cases h2 with
    | here =>
      rw [hpd] at hy
      obtain rfl := Int.natCast_inj.1 hy
      exact Und.not_up hG hc hpc h1'
    | step hx' hy' h3 =>
      rw [hy] at hy'
      obtain rfl := Int.natCast_inj.1 hy'
      exact ih h3
end
/-- Numbers below n, none twice: n at the most. -/
theorem nodup_le : ∀ (n : Nat) (l : List Nat), l.Nodup → (∀ x ∈ l, x < n) → l.length ≤ n
  | 0, l, _, h => by
    cases l with
    | nil => simp
    | cons x l => exact absurd (h x (by simp)) (by omega)
  | n + 1, l, hn, h => by
    have h1 := nodup_le n (l.filter (fun y => y != n)) (hn.filter _) (fun x hx => by
      have h2 := (List.mem_filter.1 hx).1
      have h3 := (List.mem_filter.1 hx).2
      have := h x h2
      have h4 : x ≠ n := by simpa using h3
      omega)
    have h4 : ∀ l : List Nat, l.Nodup → l.length ≤ (l.filter (fun y => y != n)).length + 1 := by
      intro l
      induction l with
      | nil => simp
      | cons x l ih =>
        intro hn
        rw [List.nodup_cons] at hn
        by_cases e : x = n
        · subst e
          have : l.filter (fun y => y != x) = l := List.filter_eq_self.2 (fun y hy => by
            have : y ≠ x := fun e => hn.1 (e ▸ hy)
            simpa using this)
          rw [List.filter_cons_of_neg (by simp), this]
          simp
        · have := ih hn.2
          rw [List.filter_cons_of_pos (by simpa using e)]
          simp only [List.length_cons]
          omega
    have := h4 l hn
    omega
def natVals (xs : List Nat) : List Value := xs.map fun x : Nat => Value.int .i64 (x : Int)
/-- Where the closure of order.List stands: what it has noted lies in the cell p. -/
structure LS (B1 p q r : Nat) (a : Option Addr) (len cap : Nat) (w0 w : World) (v : Value) (xs : List Nat) : Prop where
  bel : Below w0.heap.size w0 w
  cp : w.heap[p]? = some (.cells #[v] 70 (0, 0))
  cq : w.heap[q]? = some (.cells #[.slice a len cap] 24 (0, 0))
  cr : w.heap[r]? = some (.cells #[.func (.func 90) #[] #[.pointer (some ⟨p, 0, none⟩), .pointer (some ⟨q, 0, none⟩), .pointer (some ⟨r, 0, none⟩)]] 124 (0, 0))
  own : w.ownsRow B1 3 1 v xs.length (natVals xs)
  big : B1 ≤ w.heap.size
theorem natVals_snoc (xs : List Nat) (k : Nat) : natVals xs ++ [.int .i64 (k : Int)] = natVals (xs ++ [k]) := by simp [natVals]
/-- A number more. -/
theorem LS.push {B1 p q r len cap : Nat} {a : Option Addr} {w0 w w5 : World} {aG : Option Addr} {cG : Nat} {xs : List Nat} {k g cp : Nat} {X : Obj} (h : LS B1 p q r a len cap w0 w (.slice aG xs.length cG) xs) (hp : w0.heap.size ≤ p ∧ p < B1) (hq : q < B1 ∧ q ≠ p) (hr : r < B1 ∧ r ≠ p)
    (ho : w5.ownsRow B1 3 1 (.slice (some ⟨g, 0, none⟩) (xs.length + 1) cp) (xs.length + 1) (natVals xs ++ [.int .i64 (k : Int)])) (hg : (w.alloc X).grownBy w5 (Value.slice aG xs.length cG).ownBlock) :
    LS B1 p q r a len cap w0 (w5.setCell ⟨p, 0, none⟩ (.slice (some ⟨g, 0, none⟩) (xs.length + 1) cp)) (.slice (some ⟨g, 0, none⟩) (xs.length + 1) cp) (xs ++ [k]) := by
  have hge := fun k hk => own_ge h.own k hk
  have keep : ∀ j, j < B1 → j < w.heap.size → w5.heap[j]? = w.heap[j]? := fun j h1 h2 =>
    (hg.block j (by rw [alloc_size]; omega) (fun e => by have := hge j e.symm; omega)).trans (Below.heap_alloc _ _ _ h2)
  have bel5 : Below w0.heap.size w0 w5 := (h.bel.alloc h.bel.size X).grown hg (by rw [alloc_size]; have := h.bel.size; omega) (fun k hk => by have := hge k hk; omega)
  have lp := (Array.getElem?_eq_some_iff.1 h.cp).1
  have lq := (Array.getElem?_eq_some_iff.1 h.cq).1
  have lr := (Array.getElem?_eq_some_iff.1 h.cr).1
  rw [natVals_snoc] at ho
  refine ⟨bel5.setCell hp.1 _, ?_, ?_, ?_, ?_, by rw [setCell_size]; have := hg.size; rw [alloc_size] at this; have := h.big; omega⟩
  · exact setCell_one ((keep p hp.2 lp).trans h.cp)
  · exact (Below.heap_setCell _ _ _ _ (by show q ≠ p; exact hq.2)).trans ((keep q hq.1 lq).trans h.cq)
  · exact (Below.heap_setCell _ _ _ _ (by show r ≠ p; exact hr.2)).trans ((keep r hr.1 lr).trans h.cr)
  · have := ownsRow_setCell_below ho (show (⟨p, 0, none⟩ : Addr).block < B1 from hp.2) (.slice (some ⟨g, 0, none⟩) (xs.length + 1) cp)
    simpa using this
end Go.Proofs.YtomnkglnbmnmpaaGreatDoor
namespace Go.Proofs.YtomnkglnbmnmpaaGreatDoor
open Go.RowKit Go.Vt Go.Proofs
theorem nodup_at {l : List Int} (h : l.Nodup) {i j : Nat} {c : Int} (hij : j < i) (hi : l[i]? = some c) (hj : l[j]? = some c) : False := by
  obtain ⟨hi1, hi2⟩ := List.getElem?_eq_some_iff.1 hi
  obtain ⟨hj1, hj2⟩ := List.getElem?_eq_some_iff.1 hj
  exact (List.pairwise_iff_getElem.1 h j i hj1 hi1 hij) (hj2.trans hi2.symm)
set_option maxRecDepth 100000 in
set_option maxHeartbeats 1000000 in
/-- The closure of order.List: it notes a node and all that are below it. -/
theorem walk_ok (F : Nat → Prop) (w0 : World) (a : Option Addr) (len cap : Nat) (rows : List (List C)) (hr : Rd F w0 (.sl 4 len cap rows) (.slice a len cap)) (ht : HtRows tab [.str, .sl 116, .int .i64, .sl 3] rows) (hF : ∀ k, F k → k < w0.heap.size) (hnn : nodesRows rows ≤ 1099511627776) (hG : Good2 rows len)
    (B1 p q r : Nat) (hp : w0.heap.size ≤ p ∧ p < B1) (hq : q < B1 ∧ q ≠ p) (hrr : r < B1 ∧ r ≠ p) :
    ∀ (m k : Nat) (w : World) (v : Value) (xs : List Nat), len + 1 - chainN rows (len + 1) k < m → k < len → LS B1 p q r a len cap w0 w v xs → xs.Nodup → (∀ x ∈ xs, x < len ∧ ¬ Und rows len k x) →
      Calls Tryz.prog 90 #[.int .i64 k, .pointer (some ⟨p, 0, none⟩), .pointer (some ⟨q, 0, none⟩), .pointer (some ⟨r, 0, none⟩)] w fun e w' => e = .returned (.tuple #[]) ∧ ∃ v' ys, k ∈ ys ∧ LS B1 p q r a len cap w0 w' v' (xs ++ ys) ∧ (xs ++ ys).Nodup ∧ ∀ y ∈ ys, y < len ∧ Und rows len k y := by
  obtain ⟨i0, hi0, hz0, hz1, hz2⟩ := info_parts zinfo3
  obtain ⟨a0, b, o, ha0, h2, h3⟩ := row_at hr hF
  obtain rfl : a = a0 := by injection ha0 with ha0
  have hlen : len ≤ 64 := hG.l2
  have H3 := Lib.hid h3
  have HT := Lib.hid ht
  have HF := Lib.hid hF
  have HG := Lib.hid hG
  have HP := Lib.hid (And.intro hp (And.intro hq hrr))
  clear hr ht hF h3 hG ha0
  intro m
  induction m with
  | zero => intro k w v xs hm; omega
  | succ m ih =>
    intro k w v xs hm hk hL hxs hxk
    have IH := Lib.hid ih
    clear ih
    obtain ⟨aG, cG, rfl⟩ := own_slice hL.own
    have hxl : xs.length ≤ len := nodup_le len xs hxs (fun x hx => (hxk x hx).1)
    have hrk : rows[k]? = some (rows[k]'(by omega)) := List.getElem?_eq_getElem _
    generalize rows[k]'(by omega) = rk at hrk
    obtain ⟨rfl, hFb, hbl, hrd⟩ := H3.out k rk hrk
    obtain ⟨_, _, _, _, _, pp, ac, lc, cc, rc, rfl, _, _, hrc, htc, _, _, _, n3⟩ := node_at hrk HT.out hrd
    have hks : kids rows k = ints rc lc := kids_is hrk
    have hlc := kids_le hrk hrc hnn
    have hkn := HG.out.kn k hk
    obtain ⟨kb, ko, hka⟩ := ints_at hrc htc HF.out
    have hpb : b ≠ p := by omega
    have hpb2 : p ≠ b := fun e => hpb e.symm
    have hqp := hq.2
    have hqp2 : p ≠ q := fun e => hqp e.symm
    have hpush := fun (X : Obj) (w5 : World) (g cp : Nat) => hL.push (w5 := w5) (k := k) (g := g) (cp := cp) (X := X) hp hq hrr
    have gW : ∀ (X : Obj) (w5 : World) (g cp : Nat), LS B1 p q r (some ⟨b, o, none⟩) len cap w0 (w5.setCell ⟨p, 0, none⟩ (.slice (some ⟨g, 0, none⟩) (xs.length + 1) cp)) (.slice (some ⟨g, 0, none⟩) (xs.length + 1) cp) (xs ++ [k]) → (w.alloc X).grownBy w5 (Value.slice aG xs.length cG).ownBlock →
        w5.cell? ⟨p, 0, none⟩ = some (.slice aG xs.length cG) ∧ w5.frozen? ⟨p, 0, none⟩ = false ∧ w5.cell? ⟨q, 0, none⟩ = some (.slice (some ⟨b, o, none⟩) len cap) ∧ w5.cell? ⟨b, o + k * 4 + 3, none⟩ = some (.slice ac lc cc) := by
      intro X w5 g cp hl hg
      have hge := fun k hk => own_ge hL.own k hk
      have keep : ∀ j, j < B1 → j < w.heap.size → w5.heap[j]? = w.heap[j]? := fun j h1 h2 =>
        (hg.block j (by rw [alloc_size]; omega) (fun e => by have := hge j e.symm; omega)).trans (Below.heap_alloc _ _ _ h2)
      have lp := (Array.getElem?_eq_some_iff.1 hL.cp).1
      have lq := (Array.getElem?_eq_some_iff.1 hL.cq).1
      have p5 := (keep p hp.2 lp).trans hL.cp
      refine ⟨cell_of_row _ _ 0 _ _ _ p5, by simp [World.frozen?, p5], cell_of_row _ _ 0 _ _ _ ((keep q hq.1 lq).trans hL.cq), ?_⟩
      have e1 : w5.heap[b]? = w0.heap[b]? := (keep b (by omega) (Nat.lt_of_lt_of_le hbl hL.bel.size)).trans (hL.bel.block b hbl)
      rw [World.cell?_of_block (w := w0) (a := ⟨b, o + k * 4 + 3, none⟩) e1]
      exact n3
    have cp0 : w.cell? ⟨p, 0, none⟩ = some (.slice aG xs.length cG) := cell_of_row _ _ 0 _ _ _ hL.cp
    have hO := hL.own
    have lB := hL.big
    have HL := Lib.hid hL
    have HPU := Lib.hid hpush
    have HGW := Lib.hid gW
    have HXK := Lib.hid (And.intro hxs hxk)
    have HKN := Lib.hid hkn
    have HKA := Lib.hid hka
    have HKS := Lib.hid hks
    clear hL hpush gW hxs hxk hkn hka hks hrd hrc htc n3 hrk
    go_enter Tryz.func90, Tryz.ntmps90
    go_wp2_with (at_builtin; go_must (refine wpList_append_lies _ rfl _ _ 70 rfl B1 3 i0 _ 1 8 Tryz.underlying70 hi0 hz0 hz1 hz2 rfl (by decide) (.slice aG xs.length cG) xs.length (natVals xs) rfl (hO.alloc _) _ 1 1 [.int .i64 k] rfl rfl (World.news_of_block (heap_alloc_new w _)) (by simp [Value.oneCell']) (by decide) (by simp [maxLen]; omega) (by omega) (by rw [alloc_size]; omega) _ rfl ?_; intro g cp w5 ho hg hor hlt5; have hbx := HPU.out _ w5 g cp ho hg; obtain ⟨c5, f5, q5, n5⟩ := HGW.out _ w5 g cp hbx hg))
    clear c5 f5 q5 n5 cp0 hO ho hg
    go_loopw [18] (fun x18 wr => ∃ (i : Nat) (v' : Value) (ys : List Nat), i ≤ lc ∧ x18 = .int .i64 i ∧ k ∈ ys ∧ LS B1 p q r (some ⟨b, o, none⟩) len cap w0 wr v' (xs ++ ys) ∧ (xs ++ ys).Nodup ∧ ∀ y ∈ ys, (y < len ∧ Und rows len k y) ∧ (y = k ∨ ∃ (j c : Nat), j < i ∧ (ints rc lc)[j]? = some (c : Int) ∧ Und rows len c y)) (fun x18 _ => lc - (intOf x18).toNat)
    case atStart =>
      refine ⟨0, _, [k], by omega, rfl, by simp, hbx, ?_, fun y hy => ?_⟩
      · rw [List.nodup_append]
        refine ⟨HXK.out.1, by simp, fun x hx y hy e => ?_⟩
        obtain rfl := List.mem_singleton.1 hy
        subst e
        exact (HXK.out.2 x hx).2 .here
      · obtain rfl := List.mem_singleton.1 hy
        exact ⟨⟨hk, .here⟩, .inl rfl⟩
    case round =>
      clear hbx hor hlt5
      obtain ⟨i, v', ys, hi, rfl, hky, hL, hnd, hys⟩ := hrel
      by_cases hlt : i < lc
      case pos =>
        obtain ⟨rfl, kbl, z, kz, _, kint⟩ := HKA.out i hlt
        have hm2 : z ∈ kids rows k := by rw [HKS.out]; exact List.mem_of_getElem? kint
        obtain ⟨z1, z2, z3⟩ := HKN.out.ok z hm2
        obtain ⟨c, rfl⟩ := Int.eq_ofNat_of_zero_le z1
        rw [Int.toNat_natCast] at z3
        have hcl : c < len := by omega
        have zr := (hL.bel.cell (p := ⟨kb, ko + i, none⟩) kbl).trans kz
        have rr : wr.cell? ⟨r, 0, none⟩ = some (.func (.func 90) #[] #[.pointer (some ⟨p, 0, none⟩), .pointer (some ⟨q, 0, none⟩), .pointer (some ⟨r, 0, none⟩)]) := cell_of_row _ _ 0 _ _ _ hL.cr
        have hdeep := HG.out.deep hcl z3
        have hcm := chainN_le rows (len + 1) (c : Int)
        have hcall := IH.out c wr v' (xs ++ ys) (by omega) hcl hL hnd (fun x hx => by
          rcases List.mem_append.1 hx with hx | hx
          · exact ⟨(HXK.out.2 x hx).1, fun h => (HXK.out.2 x hx).2 (h.of_kid hcl z3)⟩
          · obtain ⟨⟨h1, h2⟩, h3⟩ := hys x hx
            refine ⟨h1, fun h => ?_⟩
            rcases h3 with rfl | ⟨j, c', hj, hjc, hu⟩
            · exact Und.not_up HG.out.toGood hcl z3 h
            · have hm3 : (c' : Int) ∈ kids rows k := by rw [HKS.out]; exact List.mem_of_getElem? hjc
              obtain ⟨_, y2, y3⟩ := HKN.out.ok _ hm3
              rw [Int.toNat_natCast] at y3
              refine Und.apart HG.out.toGood (by omega) y3 hcl z3 (fun e => ?_) hu h
              subst e
              have hn := HKN.out.nd
              rw [HKS.out] at hn
              exact nodup_at hn hj kint hjc)
        have HCALL := Lib.hid hcall
        have HYS := Lib.hid hys
        have HU := Lib.hid (And.intro z3 (And.intro hcl kint))
        clear hcall hL hnd hys z3 hdeep kint kz
        go_wp2_with fail
        refine HCALL.out.mono ?_
        rintro e w2 ⟨rfl, v2, zs, _, hL2, hnd2, hzs⟩
        have HL2 := Lib.hid (And.intro hL2 (And.intro hnd2 hzs))
        clear hL2 hnd2 hzs zr rr
        go_wp2_with fail
        obtain ⟨hL2, hnd2, hzs⟩ := HL2.out
        rw [List.append_assoc] at hL2 hnd2
        refine ⟨⟨i + 1, v2, ys ++ zs, by omega, by go_num, List.mem_append_left _ hky, hL2, hnd2, fun y hy => ?_⟩, by simp [intOf]; omega⟩
        rcases List.mem_append.1 hy with hy | hy
        · obtain ⟨h1, h2⟩ := HYS.out y hy
          exact ⟨h1, h2.imp id fun ⟨j, c', hj, h3⟩ => ⟨j, c', by omega, h3⟩⟩
        · obtain ⟨h1, h2⟩ := hzs y hy
          exact ⟨⟨h1, h2.of_kid hcl HU.out.1⟩, .inr ⟨i, c, by omega, HU.out.2.2, h2⟩⟩
      case neg =>
        obtain rfl : i = lc := by omega
        have HL2 := Lib.hid (And.intro hL (And.intro hnd hys))
        clear hL hnd hys
        go_wp2_with fail
        go_end0
        obtain ⟨hL, hnd, hys⟩ := HL2.out
        exact ⟨rfl, v', ys, hky, hL, hnd, fun y hy => (hys y hy).1⟩
end Go.Proofs.YtomnkglnbmnmpaaGreatDoor
namespace Go.Proofs.YtomnkglnbmnmpaaGreatDoor
open Go.RowKit Go.Vt Go.Proofs
/-- The numbers of nodes, in new memory, and an error; without an error the tree is well made, and the numbers are nodes of it, one at the least. -/
def ListP (rows : List (List C)) (len : Nat) (x : Int) (B : Nat) (e : Ending) (w' : World) : Prop := ∃ (v : Value) (n : Int) (xs : List Nat), e = .returned (.tuple #[v, .int .i64 n]) ∧ w'.ownsRow B 3 1 v xs.length (natVals xs) ∧ xs.length ≤ 64 ∧ (∀ y ∈ xs, y < 64) ∧ (n = 0 → Good2 rows len ∧ (0 ≤ x ∧ x < len) ∧ xs ≠ [] ∧ ∀ y ∈ xs, y < len)
set_option maxRecDepth 100000 in
/-- order.List. -/
theorem list_ok (F : Nat → Prop) (w : World) (a : Option Addr) (x : Int) (len cap : Nat) (rows : List (List C)) (hr : Rd F w (.sl 4 len cap rows) (.slice a len cap)) (ht : HtRows tab [.str, .sl 116, .int .i64, .sl 3] rows) (hF : ∀ k, F k → k < w.heap.size) (hnn : nodesRows rows ≤ 1099511627776) :
    Calls Tryz.prog 42 #[.agg #[.slice a len cap], .int .i64 x] w fun e w' => ListP rows len x w.heap.size e w' ∧ Below w.heap.size w w' := by
  obtain ⟨W, hW⟩ : ∃ W, W = w.alloc (Obj.cells #[.slice a len cap] 24) := ⟨_, rfl⟩
  have hb : Below w.heap.size w W := by rw [hW]; exact (Below.refl _ _).alloc (Nat.le_refl _) _
  have s1 : W.heap.size = w.heap.size + 1 := by rw [hW, alloc_size]
  have x1 : W.heap[w.heap.size]? = some (.cells #[.slice a len cap] 24 (0, 0)) := by rw [hW]; exact heap_alloc_new w _
  have hc := ocheck_ok F W a x len cap rows (Rd.mono (fun k hk => ⟨hk, hb.block k (hF k hk)⟩) _ _ hr) ht (fun k hk => Nat.lt_of_lt_of_le (hF k hk) hb.size) hnn
  have c0 : W.cell? ⟨w.heap.size, 0, none⟩ = some (.slice a len cap) := cell_of_row _ _ 0 _ _ _ x1
  have HC := Lib.hid hc
  have HW := Lib.hid hW
  have HB := Lib.hid hb
  have HR := Lib.hid hr
  have HF := Lib.hid hF
  have HT := Lib.hid ht
  have HX := Lib.hid (And.intro x1 s1)
  clear hc hW hb hr ht hF x1 s1
  go_enter Tryz.func42, Tryz.ntmps42
  go_wp2_with fail
  rw [← HW.out]
  go_wp2_with fail
  refine HC.out.mono ?_
  rintro e w1 ⟨⟨n, rfl, hn⟩, hb1⟩
  have HN := Lib.hid hn
  have hb2 := HB.out.trans (hb1.mono HB.out.size)
  have x2 : w1.heap[w.heap.size]? = some (.cells #[.slice a len cap] 24 (0, 0)) := (hb1.block _ (by have := HX.out.2; omega)).trans HX.out.1
  have c1 : w1.cell? ⟨w.heap.size, 0, none⟩ = some (.slice a len cap) := cell_of_row _ _ 0 _ _ _ x2
  have s2 : w.heap.size + 1 ≤ w1.heap.size := by have := HX.out.2; have := hb1.size; omega
  have HB2 := Lib.hid hb2
  have HX2 := Lib.hid x2
  clear hn hb1 hb2 c0 x2
  by_cases hn0 : n = 0
  case neg =>
    have hn1 : (n != 0) = true := by simp [hn0]
    go_wp2_with fail
    go_ret2
    exact ⟨⟨_, n, [], rfl, ⟨by simp [natVals], .inl ⟨rfl, rfl⟩⟩, by simp, by simp, fun h => absurd h hn0⟩, HB2.out⟩
  case pos =>
    subst hn0
    obtain ⟨hG, hx1, hx2⟩ := HN.out (by first | trivial | rfl)
    obtain ⟨xn, rfl⟩ := Int.eq_ofNat_of_zero_le hx1
    have hwk := walk_ok F w1 a len cap rows (Rd.mono (fun k hk => ⟨hk, HB2.out.block k (HF.out k hk)⟩) _ _ HR.out) HT.out (fun k hk => Nat.lt_of_lt_of_le (HF.out k hk) HB2.out.size) hnn hG (w1.heap.size + 2) w1.heap.size w.heap.size (w1.heap.size + 1) ⟨Nat.le_refl _, by omega⟩ ⟨by omega, by omega⟩ ⟨by omega, by omega⟩ (len + 2) xn
    have HWK := Lib.hid hwk
    have HG := Lib.hid hG
    obtain ⟨U, hU⟩ : ∃ U, U = (w1.alloc (Obj.cells #[Value.slice none 0 0] 70)).alloc (Obj.cells #[.func (.func 90) #[] #[.pointer (some ⟨w1.heap.size, 0, none⟩), .pointer (some ⟨w.heap.size, 0, none⟩), .pointer (some ⟨w1.heap.size + 1, 0, none⟩)]] 124) := ⟨_, rfl⟩
    have sU : U.heap.size = w1.heap.size + 2 := by rw [hU, alloc_size, alloc_size]
    have bU : Below w1.heap.size w1 U := by rw [hU]; exact ((Below.refl _ _).alloc (Nat.le_refl _) _).alloc (by rw [alloc_size]; omega) _
    have v0 : U.heap[w1.heap.size]? = some (.cells #[Value.slice none 0 0] 70 (0, 0)) := by rw [hU]; exact (Below.heap_alloc _ _ _ (by rw [alloc_size]; omega)).trans (heap_alloc_new w1 _)
    have u1 : U.heap[w1.heap.size + 1]? = some (.cells #[.func (.func 90) #[] #[.pointer (some ⟨w1.heap.size, 0, none⟩), .pointer (some ⟨w.heap.size, 0, none⟩), .pointer (some ⟨w1.heap.size + 1, 0, none⟩)]] 124 (0, 0)) := by
      rw [hU]; have := heap_alloc_new (w1.alloc (Obj.cells #[Value.slice none 0 0] 70)) (Obj.cells #[.func (.func 90) #[] #[.pointer (some ⟨w1.heap.size, 0, none⟩), .pointer (some ⟨w.heap.size, 0, none⟩), .pointer (some ⟨w1.heap.size + 1, 0, none⟩)]] 124); rwa [alloc_size] at this
    have hL : LS (w1.heap.size + 2) w1.heap.size w.heap.size (w1.heap.size + 1) a len cap w1 U (.slice none 0 0) [] := by
      exact ⟨bU, v0, (bU.block _ (by omega)).trans HX2.out, u1, ⟨by simp [natVals], .inl ⟨rfl, rfl⟩⟩, by omega⟩
    have hcall := HWK.out U (.slice none 0 0) [] (by omega) (by omega) hL (by simp) (by simp)
    have HU := Lib.hid hU
    have HCALL := Lib.hid hcall
    clear hwk hG hU bU v0 u1 hL hcall
    go_wp2_with fail
    rw [← HU.out]
    refine HCALL.out.mono ?_
    rintro e w2 ⟨rfl, v', ys, hky, hL, hnd, hys⟩
    have cp := cell_of_row _ _ 0 _ _ _ hL.cp
    obtain ⟨aG, cG, hv⟩ := own_slice hL.own
    rw [hv] at cp
    have HL := Lib.hid (And.intro hL (And.intro hnd (And.intro hys hv)))
    clear hL hnd hys hv
    go_wp2_with fail
    go_ret2
    obtain ⟨hL, hnd, hys, hv⟩ := HL.out
    simp only [List.nil_append] at hL hnd hv
    refine ⟨⟨_, 0, ys, rfl, ?_, ?_, fun y hy => by have := (hys y hy).1; have := HG.out.l2; omega, fun _ => ⟨HG.out, ⟨by omega, by omega⟩, ?_, fun y hy => (hys y hy).1⟩⟩, HB2.out.trans (hL.bel.mono HB2.out.size)⟩
    · have h1 := hL.own
      rw [hv] at h1
      refine ⟨h1.1, ?_⟩
      rcases h1.2 with h | ⟨g, cap', cur, h, hb, hh⟩
      · exact .inl h
      · exact .inr ⟨g, cap', cur, h, by omega, hh⟩
    · have h1 := nodup_le len ys hnd (fun y hy => (hys y hy).1)
      have := HG.out.l2
      omega
    · exact List.ne_nil_of_mem hky
end Go.Proofs.YtomnkglnbmnmpaaGreatDoor
