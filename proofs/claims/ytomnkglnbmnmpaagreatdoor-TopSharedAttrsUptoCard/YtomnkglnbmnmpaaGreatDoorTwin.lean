/- attrs.find by the names alone; attrs.twin: a copy of a tree, in new memory, with lists of its own. -/
import Derived.Test.YtomnkglnbmnmpaaGreatDoorFind
import Derived.WalkKit
import Derived.WalkSpells
import Derived.WalkLawsBesides
import Derived.Lib.Bytealg
import Derived.Deep.RegionWith
import Derived.RegionTactic
import Derived.Test.YtomnkglnbmnmpaaGreatDoorNumbers
import Derived.Test.YtomnkglnbmnmpaaGreatDoorBeside
import Derived.Test.YtomnkglnbmnmpaaGreatDoorTxt
import Derived.Deep.AppendLies
import Derived.OwnWalk
import Derived.Lib.SliceRun
namespace Go.Proofs.YtomnkglnbmnmpaaGreatDoor
open Go.RowKit Go.Vt Go.Proofs
/-- How two texts compare. -/
def cmpB (a b : ByteArray) : Int := Go.Lib.compareBytes a.data.toList b.data.toList
/-- The name of the j-th attribute. -/
def nameOf (rows : List (List C)) (j : Nat) : ByteArray := match rows[j]? with
  | some (.str s :: _) => s
  | _ => ⟨#[]⟩
/-- Where a search by halves ends. -/
def bs (nm : Nat → ByteArray) (s : ByteArray) : Nat → Nat → Nat → Nat
  | 0, lo, _ => lo
  | f + 1, lo, hi => if lo < hi then (if cmpB (nm ((lo + hi) / 2)) s < 0 then bs nm s f ((lo + hi) / 2 + 1) hi else bs nm s f lo ((lo + hi) / 2)) else lo
theorem bs_end (nm : Nat → ByteArray) (s : ByteArray) (f lo : Nat) : bs nm s f lo lo = lo := by cases f <;> simp [bs]
theorem bs_same {nm nm' : Nat → ByteArray} (s : ByteArray) {l : Nat} (h : ∀ j, j < l → nm j = nm' j) : ∀ (f lo hi : Nat), hi ≤ l → bs nm s f lo hi = bs nm' s f lo hi
  | 0, _, _, _ => rfl
  | f + 1, lo, hi, hl => by
    simp only [bs]
    by_cases h1 : lo < hi
    · rw [if_pos h1, if_pos h1, h _ (by omega), bs_same s h f _ hi hl, bs_same s h f lo _ (by omega)]
    · rw [if_neg h1, if_neg h1]
/-- What the search answers. -/
def foundAt (nm : Nat → ByteArray) (s : ByteArray) (l : Nat) : Nat := bs nm s l 0 l
noncomputable def isFound (nm : Nat → ByteArray) (s : ByteArray) (l : Nat) : Bool := decide (foundAt nm s l < l) && decide (cmpB (nm (foundAt nm s l)) s = 0)
theorem found_same {nm nm' : Nat → ByteArray} (s : ByteArray) {l : Nat} (h : ∀ j, j < l → nm j = nm' j) : foundAt nm s l = foundAt nm' s l ∧ isFound nm s l = isFound nm' s l := by
  have e : foundAt nm s l = foundAt nm' s l := bs_same s h l 0 l (Nat.le_refl _)
  refine ⟨e, ?_⟩
  simp only [isFound, e]
  by_cases h1 : foundAt nm' s l < l
  · rw [h _ h1]
  · simp [h1]
theorem isFound_lt {nm : Nat → ByteArray} {s : ByteArray} {l : Nat} (h : isFound nm s l = true) : foundAt nm s l < l := by
  simp only [isFound, Bool.and_eq_true, decide_eq_true_eq] at h
  exact h.1
set_option maxRecDepth 100000 in
theorem cmpstr3_ok (a b : ByteArray) (w : World) : Calls Tryz.prog 157 #[.string a, .string b] w fun e w' => e = .returned (.int .i64 (cmpB a b)) ∧ w' = w := by
  go_enter Tryz.func157, Tryz.ntmps157
  go_wp2
  rw [run_callFunc_extern Tryz.func200 (by kernel_rfl) (by kernel_rfl) (by kernel_rfl) (e := Extern.BytealgCompare.compare) (by kernel_rfl), Lib.run_compareString]
  simp only [Result.andThen]
  rw [Oper.upon_value]
  go_wp2
  go_ret
  exact ⟨rfl, rfl⟩
set_option maxRecDepth 100000 in
theorem compare3_ok (a b : ByteArray) (w : World) : Calls Tryz.prog 117 #[.string a, .string b] w fun e w' => e = .returned (.int .i64 (cmpB a b)) ∧ w' = w := by
  go_enter Tryz.func117, Tryz.ntmps117
  go_wp2_with fail
  refine (cmpstr3_ok _ _ _).mono ?_
  rintro e w1 ⟨rfl, rfl⟩
  go_wp2_with fail
  go_ret
  exact ⟨rfl, rfl⟩
set_option maxRecDepth 100000 in
theorem findc3_ok (a b s : ByteArray) (w : World) : Calls Tryz.prog 116 #[.agg #[.string a, .string b], .string s] w fun e w' => e = .returned (.int .i64 (cmpB a s)) ∧ Below w.heap.size w w' := by
  have hc := compare3_ok
  have HC := Lib.hid hc
  clear hc
  go_enter Tryz.func116, Tryz.ntmps116
  go_wp2_with fail
  refine (HC.out _ _ _).mono ?_
  rintro e w1 ⟨rfl, rfl⟩
  go_wp2_with fail
  go_ret
  exact ⟨rfl, (Below.refl _ _).alloc (Nat.le_refl _) _⟩
set_option maxRecDepth 100000 in
set_option maxHeartbeats 1000000 in
/-- slices.BinarySearchFunc over attributes: a place in the list, or its end. -/
theorem search3_ok (F : Nat → Prop) (w : World) (v : Value) (s : ByteArray) (len cap : Nat) (rows : List (List C)) (hr : Rd F w (.sl 2 len cap rows) v) (ht : HtRows tab [.str, .str] rows) (hF : ∀ k, F k → k < w.heap.size) (hl : len ≤ 1099511627776) :
    Calls Tryz.prog 115 #[v, .string s, .func (.func 116) #[] #[]] w fun e w' => (e = .returned (.tuple #[.int .i64 (foundAt (nameOf rows) s len : Nat), .bool (isFound (nameOf rows) s len)]) ∧ foundAt (nameOf rows) s len ≤ len) ∧ Below w.heap.size w w' := by
  obtain ⟨a, b, o, rfl, h2, h3⟩ := row_at hr hF
  have H3 := Lib.hid h3
  have HT := Lib.hid ht
  have HC := Lib.hid findc3_ok
  clear hr h3 ht hF
  go_enter Tryz.func115, Tryz.ntmps115
  go_wp2_with fail
  go_loopw [9, 10] (fun x9 x10 wr => ∃ lo hi f : Nat, lo ≤ hi ∧ hi ≤ len ∧ hi - lo ≤ f ∧ bs (nameOf rows) s f lo hi = foundAt (nameOf rows) s len ∧ x9 = .int .i64 lo ∧ x10 = .int .i64 hi ∧ Below w.heap.size w wr) (fun x9 x10 _ => (intOf x10).toNat - (intOf x9).toNat)
  case atStart => exact ⟨0, len, len, by omega, by omega, by omega, rfl, rfl, rfl, Below.refl _ _⟩
  case round =>
    obtain ⟨lo, hi, f, h1, h4, hf, hbs, rfl, rfl, hB⟩ := hrel
    by_cases hlt : lo < hi
    case pos =>
      obtain ⟨m, hm⟩ : ∃ m, m = (lo + hi) / 2 := ⟨_, rfl⟩
      have hm1 : m < hi := by omega
      have hm0 : lo ≤ m := by omega
      have hml : m < len := by omega
      have hmm : ((lo : Int) + (hi : Int)) / 2 = (m : Int) := by omega
      have hri : rows[m]? = some (rows[m]'(by omega)) := List.getElem?_eq_getElem _
      generalize rows[m]'(by omega) = r at hri
      obtain ⟨rfl, _, hbl, hrd⟩ := H3.out m r hri
      obtain ⟨c0, cs0, rfl, k0, ht1⟩ := (ht_at _ _ _ HT.out hri).cons
      obtain ⟨c1, cs1, rfl, k1, ht2⟩ := ht1.cons
      obtain rfl := ht2.nil
      obtain ⟨nm, rfl⟩ := ht_str k0
      obtain ⟨vl, rfl⟩ := ht_str k1
      simp only [RdRow, Rd, and_true, exists_eq_right] at hrd
      obtain ⟨q0, q1⟩ := hrd
      have p0 := (hB.cell (p := ⟨b, o + m * 2, none⟩) hbl).trans q0
      have p1 := (hB.cell (p := ⟨b, o + m * 2 + 1, none⟩) hbl).trans q1
      have HB := Lib.hid hB
      have HM := Lib.hid hm
      have hnm : nameOf rows m = nm := by simp only [nameOf, hri]
      obtain ⟨f, rfl⟩ : ∃ f', f = f' + 1 := ⟨f - 1, by omega⟩
      rw [bs, if_pos hlt, ← HM.out, hnm] at hbs
      have HBS := Lib.hid hbs
      clear hB q0 q1 k0 k1 ht1 ht2 hm hbs hnm hri
      go_wp2_with fail
      refine (HC.out _ _ _ _).mono ?_
      rintro e w1 ⟨rfl, hb1⟩
      have hB2 := HB.out.trans (hb1.mono HB.out.size)
      clear hb1 p0 p1
      have HB2 := Lib.hid hB2
      clear hB2
      by_cases hn : cmpB nm s < 0
      case pos =>
        go_wp2_with fail
        exact ⟨⟨m + 1, hi, f, by omega, by omega, by omega, by have := HBS.out; rwa [if_pos hn] at this, by go_num, rfl, HB2.out⟩, by simp [intOf]; omega⟩
      case neg =>
        have hn1 : decide (cmpB nm s < 0) = false := by simp; omega
        go_wp2_with fail
        exact ⟨⟨lo, m, f, by omega, by omega, by omega, by have := HBS.out; rwa [if_neg (by omega)] at this, rfl, rfl, HB2.out⟩, by simp [intOf]; omega⟩
    case neg =>
      obtain rfl : lo = hi := by omega
      rw [bs_end] at hbs
      by_cases hl2 : lo < len
      case pos =>
        have hri : rows[lo]? = some (rows[lo]'(by omega)) := List.getElem?_eq_getElem _
        generalize rows[lo]'(by omega) = r at hri
        obtain ⟨rfl, _, hbl, hrd⟩ := H3.out lo r hri
        obtain ⟨c0, cs0, rfl, k0, ht1⟩ := (ht_at _ _ _ HT.out hri).cons
        obtain ⟨c1, cs1, rfl, k1, ht2⟩ := ht1.cons
        obtain rfl := ht2.nil
        obtain ⟨nm, rfl⟩ := ht_str k0
        obtain ⟨vl, rfl⟩ := ht_str k1
        simp only [RdRow, Rd, and_true, exists_eq_right] at hrd
        obtain ⟨q0, q1⟩ := hrd
        have p0 := (hB.cell (p := ⟨b, o + lo * 2, none⟩) hbl).trans q0
        have p1 := (hB.cell (p := ⟨b, o + lo * 2 + 1, none⟩) hbl).trans q1
        have HB := Lib.hid hB
        have hnm : nameOf rows lo = nm := by simp only [nameOf, hri]
        have HNM := Lib.hid (And.intro hnm hbs)
        clear hB q0 q1 k0 k1 ht1 ht2 hnm hbs hri
        go_wp2_with fail
        refine (HC.out _ _ _ _).mono ?_
        rintro e w1 ⟨rfl, hb1⟩
        have hB2 := HB.out.trans (hb1.mono HB.out.size)
        clear hb1 p0 p1
        have HB2 := Lib.hid hB2
        clear hB2
        by_cases hn : cmpB nm s = 0
        case pos =>
          have hn1 : (cmpB nm s == 0) = true := by simp [hn]
          go_wp2_with fail
          go_ret2
          obtain ⟨e1, e2⟩ := HNM.out
          have e3 : isFound (nameOf rows) s len = true := by simp only [isFound, ← e2, e1, hn, hl2, decide_true, Bool.and_self]
          rw [e3, ← e2]
          exact ⟨⟨rfl, by omega⟩, HB2.out⟩
        case neg =>
          have hn1 : (cmpB nm s == 0) = false := by simp [hn]
          go_wp2_with fail
          go_ret2
          obtain ⟨e1, e2⟩ := HNM.out
          have e3 : isFound (nameOf rows) s len = false := by simp only [isFound, ← e2, e1, hn, hl2, decide_true, decide_false, Bool.and_false]
          rw [e3, ← e2]
          exact ⟨⟨rfl, by omega⟩, HB2.out⟩
      case neg =>
        have hle : lo = len := by omega
        have HB := Lib.hid hB
        have HBS := Lib.hid hbs
        clear hB hbs
        subst hle
        go_wp2_with fail
        go_ret2
        have e3 : isFound (nameOf rows) s lo = false := by simp [isFound, ← HBS.out]
        rw [e3, ← HBS.out]
        exact ⟨⟨rfl, by omega⟩, HB.out⟩
set_option maxRecDepth 100000 in
/-- attrs.find. -/
theorem find3_ok (F : Nat → Prop) (w : World) (v : Value) (s : ByteArray) (len cap : Nat) (rows : List (List C)) (hr : Rd F w (.sl 2 len cap rows) v) (ht : HtRows tab [.str, .str] rows) (hF : ∀ k, F k → k < w.heap.size) (hl : len ≤ 1099511627776) :
    Calls Tryz.prog 81 #[v, .string s] w fun e w' => (e = .returned (.tuple #[.int .i64 (foundAt (nameOf rows) s len : Nat), .bool (isFound (nameOf rows) s len)]) ∧ foundAt (nameOf rows) s len ≤ len) ∧ Below w.heap.size w w' := by
  have hc := search3_ok F w v s len cap rows hr ht hF hl
  obtain ⟨a, rfl⟩ : ∃ a, v = .slice a len cap := by have h := hr; simp only [Rd] at h; obtain ⟨a, h, _⟩ := h; exact ⟨a, h⟩
  have HC := Lib.hid hc
  clear hc hr ht hF
  go_enter Tryz.func81, Tryz.ntmps81
  go_wp2_with fail
  refine HC.out.mono ?_
  rintro e w1 ⟨⟨rfl, h1⟩, hb⟩
  go_wp2_with fail
  go_ret2
  exact ⟨⟨rfl, h1⟩, hb⟩
end Go.Proofs.YtomnkglnbmnmpaaGreatDoor
namespace Go.Proofs.YtomnkglnbmnmpaaGreatDoor
open Go.RowKit Go.Vt Go.Proofs
/-- The names that a list of attributes bears in memory. -/
def NamesAt (w : World) (a : Option Addr) (l : Nat) (nm : Nat → ByteArray) : Prop := ∀ j, j < l → ∃ g cur, a = some ⟨g, 0, none⟩ ∧ w.heap[g]? = some (Obj.cells cur 116 (0, 0)) ∧ cur[j * 2]? = some (.string (nm j))
theorem NamesAt.keep {w w' : World} {a : Option Addr} {l : Nat} {nm : Nat → ByteArray} (h : NamesAt w a l nm) (hk : ∀ (g : Nat) (cur : Array Value), w.heap[g]? = some (Obj.cells cur 116 (0, 0)) → w'.heap[g]? = w.heap[g]?) : NamesAt w' a l nm := fun j hj => by
  obtain ⟨g, cur, h1, h2, h3⟩ := h j hj
  exact ⟨g, cur, h1, (hk g cur h2).trans h2, h3⟩
theorem flat_names {F : Nat → Prop} {w : World} : ∀ (rs : List (List C)) (xs : List Value), RdFlat F w rs xs → HtRows tab [.str, .str] rs → ∀ j, j < rs.length → xs[j * 2]? = some (.string (nameOf rs j))
  | [], _, _, _, j, hj => by simp at hj
  | r :: rs, xs, ⟨v1, v2, e, h1, h2⟩, ht, j, hj => by
    simp only [HtRows] at ht
    obtain ⟨ht1, ht2⟩ := ht
    obtain ⟨c0, cs0, rfl, k0, k1⟩ := ht1.cons
    obtain ⟨c1, cs1, rfl, k2, k3⟩ := k1.cons
    obtain rfl := k3.nil
    obtain ⟨u, us, rfl, b0, b1⟩ := h1.cons
    obtain ⟨u2, us2, rfl, b2, b3⟩ := b1.cons
    obtain rfl := b3.nil
    obtain ⟨s, rfl⟩ := ht_str k0
    simp only [Rd] at b0
    subst e b0
    cases j with
    | zero => simp [nameOf]
    | succ j =>
      have := flat_names rs v2 h2 ht2 j (by simpa using hj)
      rw [show (j + 1) * 2 = j * 2 + 1 + 1 from by omega]
      simpa [nameOf] using this
theorem nameOf_take {rows : List (List C)} {len j : Nat} (hj : j < len) : nameOf (rows.take len) j = nameOf rows j := by simp only [nameOf, List.getElem?_take_of_lt hj]
set_option maxRecDepth 100000 in
/-- A copy of a list of attributes: a block of texts of one's own. -/
theorem clone_atts (F : Nat → Prop) (w : World) (v : Value) (len cap : Nat) (rows : List (List C)) (hr : Rd F w (.sl 2 len cap rows) v) (ht : HtRows tab [.str, .str] rows) (_hF : ∀ k, F k → k < w.heap.size) (hlen : len ≤ 1099511627776) :
    Calls Tryz.prog 104 #[v] w fun e w' => (∃ v', e = .returned v' ∧ AttV (fun k => w.heap.size ≤ k) w' 116 v' len ∧ ∃ a c, v' = .slice a len c ∧ NamesAt w' a len (nameOf rows)) ∧ Below w.heap.size w w' := by
  have hq : ∀ (W : World) (a : Option Addr) (n c n1 c1 : Nat), (binOp .eql 105 (.slice a n c) (.slice none n1 c1)).run Tryz.prog W = .ok (.bool a.isNone) W := fun W a n c n1 c1 => Lib.run_eql_slice_nil W _ _ a n c n1 c1 Tryz.underlying105
  obtain ⟨i0, hi0, hz0, hz1, hz2⟩ := info_parts zinfo116
  obtain ⟨a, rfl, h2, h3⟩ : ∃ a, v = .slice a len cap ∧ len ≤ rows.length ∧ rows.length ≤ cap := by simp only [Rd] at hr; obtain ⟨a, h1, h2, h3, _⟩ := hr; exact ⟨a, h1, h2, h3⟩
  cases a with
  | none =>
    have hq1 := fun W => hq W none len cap 0 0
    have hl0 : len = 0 := by
      simp only [Rd] at hr
      obtain ⟨a, h1, _, _, h4⟩ := hr
      rcases h4 with h4 | ⟨_, _, h4, _⟩
      · rw [h4] at h2; simpa using h2
      · rw [h4] at h1; cases h1
    clear hq
    go_enter Tryz.func104, Tryz.ntmps104
    subst hl0
    go_wp2_with fail
    go_ret
    first | exact ⟨⟨_, rfl, .inl ⟨rfl, rfl⟩, _, _, rfl, fun j hj => by omega⟩, Below.refl _ _⟩ | exact ⟨⟨_, rfl, .inl rfl, _, _, rfl, fun j hj => by omega⟩, Below.refl _ _⟩
  | some ad =>
    have hq1 := fun W => hq W (some ad) len cap 0 0
    clear hq
    have own0 : (w.alloc (Obj.cells #[] 116)).ownsRow w.heap.size 116 2 (.slice (some ⟨w.heap.size, 0, none⟩) 0 0) 0 [] := ⟨by simp, .inr ⟨w.heap.size, 0, #[], rfl, Nat.le_refl _, heap_alloc_new w _, Nat.le_refl _, by decide, by simp, by simp⟩⟩
    obtain ⟨news, nf, nl, nc, n1⟩ := Rd.news hr (Obj.cells #[] 116)
    go_enter Tryz.func104, Tryz.ntmps104
    go_wp2_with (at_builtin; go_must (refine wpList_append_own_at _ rfl _ _ 105 rfl w.heap.size 116 i0 _ 2 32 Tryz.underlying105 hi0 hz0 hz1 hz2 rfl (by decide) (.slice (some ⟨w.heap.size, 0, none⟩) 0 0) 0 [] rfl own0 ad len cap news rfl nl nc n1 (by simp [maxLen]; omega) (by omega) (by simp) ?_; intro v' w' ho hgr _ _))
    go_ret
    rw [Nat.zero_add, List.nil_append] at ho
    have hfn := flat_names _ _ nf (HtRows.take len rows ht)
    refine ⟨⟨_, rfl, ?_, ?_⟩, ((Below.refl _ _).alloc (Nat.le_refl _) _).grown hgr (by simp) (fun k e => by cases e; exact Nat.le_refl _)⟩
    · rcases TxtAt.of_own ho (txts_of_flat _ _ nf (HtRows.take len rows ht)).2 with h | ⟨g, c, rfl, hb, hi⟩
      · exact .inl h
      · exact .inr ⟨g, c, rfl, hb, hi⟩
    · obtain ⟨a', c', hv⟩ := own_slice ho
      refine ⟨a', c', hv, fun j hj => ?_⟩
      rcases ho.2 with ⟨_, h0⟩ | ⟨g, cap', cur, h1, h2', h3', h4, h5, h6, h7⟩
      · omega
      · rw [hv] at h1
        injection h1 with h1
        refine ⟨g, cur, h1, h3', ?_⟩
        have h8 := hfn j (by simp; omega)
        rw [← h7, List.getElem?_take_of_lt (by omega), Array.getElem?_toList, nameOf_take hj] at h8
        exact h8
theorem atts_nodes : ∀ (rs : List (List C)), HtRows tab [.str, .str] rs → nodesRows rs = 3 * rs.length
  | [], _ => by simp [nodesRows]
  | r :: rs, h => by
    simp only [HtRows] at h
    obtain ⟨c0, cs0, rfl, k0, k1⟩ := h.1.cons
    obtain ⟨c1, cs1, rfl, k2, k3⟩ := k1.cons
    obtain rfl := k3.nil
    have := atts_nodes rs h.2
    have h1 : nodes c0 = 1 := by cases c0 <;> simp [Ht, nodes] at k0 ⊢
    have h2 : nodes c1 = 1 := by cases c1 <;> simp [Ht, nodes] at k2 ⊢
    simp only [nodesRows, nodesRow, h1, h2, List.length_cons]
    omega
theorem kids_nodes2 : ∀ (rs : List (List C)), HtRows tab [.int .i64] rs → nodesRows rs = 2 * rs.length
  | [], _ => by simp [nodesRows]
  | r :: rs, h => by
    simp only [HtRows] at h
    obtain ⟨c0, cs0, rfl, k0, k1⟩ := h.1.cons
    obtain rfl := k1.nil
    have := kids_nodes2 rs h.2
    have h1 : nodes c0 = 1 := by cases c0 <;> simp [Ht, nodes] at k0 ⊢
    simp only [nodesRows, nodesRow, h1, List.length_cons]
    omega
theorem own_block' {w : World} {B e s n k : Nat} {v : Value} {xs : List Value} (h : w.ownsRow B e s v n xs) (hk : v.ownBlock = some k) : B ≤ k ∧ ∃ cur, w.heap[k]? = some (.cells cur e (0, 0)) := by
  rcases h.2 with ⟨h0, _⟩ | ⟨g', cap, cur, h1, h2, h3, h4⟩
  · rw [h0] at hk; simp [Value.ownBlock] at hk
  · rw [h1] at hk
    have : g' = k := by simpa [Value.ownBlock] using hk
    subst this
    exact ⟨h2, cur, h3⟩
/-- How many attributes node k has. -/
def attLen (rows : List (List C)) (k : Nat) : Nat := match rows[k]? with
  | some [_, .sl _ l _ _, _, _] => l
  | _ => 0
/-- The attributes of node k. -/
def attsOf (rows : List (List C)) (k : Nat) : List (List C) := match rows[k]? with
  | some [_, .sl _ _ _ ats, _, _] => ats
  | _ => []
/-- The attributes of each node are as many as before, and bear the names that they bore. -/
def NamesR (rows : List (List C)) (n : Nat) (xs : List Value) (w : World) : Prop := ∀ k, k < n → ∃ a c, xs[k * 4 + 1]? = some (.slice a (attLen rows k) c) ∧ NamesAt w a (attLen rows k) (nameOf (attsOf rows k))
theorem NamesR.zero (rows : List (List C)) (w : World) : NamesR rows 0 [] w := fun k hk => by omega
theorem NamesR.keep {rows : List (List C)} {n : Nat} {xs : List Value} {w w' : World} (h : NamesR rows n xs w) (hk : ∀ (g : Nat) (cur : Array Value), w.heap[g]? = some (Obj.cells cur 116 (0, 0)) → w'.heap[g]? = w.heap[g]?) : NamesR rows n xs w' := fun k hk' => by
  obtain ⟨a, c, h1, h2⟩ := h k hk'
  exact ⟨a, c, h1, NamesAt.keep h2 hk⟩
theorem NamesR.snoc {rows : List (List C)} {n : Nat} {xs : List Value} {w : World} {u0 u2 u3 : Value} {a : Option Addr} {c sz l k1 : Nat} {ats : List (List C)} {c0 c2 c3 : C} (hl : xs.length = n * 4) (h : NamesR rows n xs w) (hr : rows[n]? = some [c0, .sl sz l k1 ats, c2, c3]) (hn : NamesAt w a l (nameOf ats)) : NamesR rows (n + 1) (xs ++ [u0, .slice a l c, u2, u3]) w := fun k hk => by
  by_cases e : k < n
  · obtain ⟨a', c', h1, h2⟩ := h k e
    exact ⟨a', c', by rw [List.getElem?_append_left (by omega)]; exact h1, h2⟩
  · obtain rfl : k = n := by omega
    have e1 : attLen rows k = l := by simp only [attLen, hr]
    have e2 : attsOf rows k = ats := by simp only [attsOf, hr]
    refine ⟨a, c, ?_, by rw [e1, e2]; exact hn⟩
    rw [e1, List.getElem?_append_right (by omega), hl, show k * 4 + 1 - k * 4 = 1 from by omega]
    rfl
/-- A tree of one's own: len nodes in block g, in new memory, m values of data at the most; their lists in blocks of their own kinds. -/
def OwnTreeW (rows : List (List C)) (B m len g c : Nat) (w : World) : Prop := ∃ (xs : List Value) (F J : Nat → Prop), NamesR rows len xs w ∧ w.ownsRow B 107 4 (.slice (some ⟨g, 0, none⟩) len c) len xs ∧ NodesW 116 3 F J w len m xs ∧ (∀ k, F k → (B ≤ k ∧ k < w.heap.size) ∧ k ≠ g) ∧ (∀ k, J k → (B ≤ k ∧ k < w.heap.size) ∧ k ≠ g)
set_option maxRecDepth 100000 in
set_option maxHeartbeats 4000000 in
/-- attrs.twin: a tree of one's own. -/
theorem twin_ok (F : Nat → Prop) (w : World) (a : Option Addr) (len cap : Nat) (rows : List (List C)) (hr : Rd F w (.sl 4 len cap rows) (.slice a len cap)) (ht : HtRows tab [.str, .sl 116, .int .i64, .sl 3] rows) (hF : ∀ k, F k → k < w.heap.size) (hnn : nodesRows rows ≤ 1099511627776) (hl0 : 0 < len) (hlen : len ≤ 64) :
    Calls Tryz.prog 83 #[.agg #[.slice a len cap]] w fun e w' => (∃ g c, e = .returned (.agg #[.slice (some ⟨g, 0, none⟩) len c]) ∧ OwnTreeW rows w.heap.size (nodesRows rows + 64) len g c w') ∧ Below w.heap.size w w' := by
  obtain ⟨i0, hi0, hz0, hz1, hz2⟩ := info_parts zinfo107
  obtain ⟨a0, b, o, ha0, h2, h3⟩ := row_at hr hF
  obtain rfl : a = a0 := by injection ha0 with ha0
  obtain ⟨W1, hW1⟩ : ∃ W, W = (w.alloc (Obj.cells #[.slice a len cap] 24)).alloc (Obj.cells #[.slice none 0 0] 24) := ⟨_, rfl⟩
  obtain ⟨W2, hW2⟩ : ∃ W, W = W1.alloc (Obj.cells #[.slice none 0 0] 24) := ⟨_, rfl⟩
  have s1 : W1.heap.size = w.heap.size + 2 := by rw [hW1, alloc_size, alloc_size]
  have b1 : Below w.heap.size w W1 := by rw [hW1]; exact ((Below.refl _ _).alloc (Nat.le_refl _) _).alloc (by rw [alloc_size]; omega) _
  have x1 : W1.heap[w.heap.size]? = some (.cells #[.slice a len cap] 24 (0, 0)) := by rw [hW1]; exact (Below.heap_alloc _ _ _ (by rw [alloc_size]; omega)).trans (heap_alloc_new w _)
  have y1 : W1.heap[w.heap.size + 1]? = some (.cells #[.slice none 0 0] 24 (0, 0)) := by
    rw [hW1]; have := heap_alloc_new (w.alloc (Obj.cells #[.slice a len cap] 24)) (Obj.cells #[.slice none 0 0] 24); rwa [alloc_size] at this
  have s2 : W2.heap.size = w.heap.size + 3 := by rw [hW2, alloc_size, s1]
  have b2 : Below W1.heap.size W1 W2 := by rw [hW2]; exact (Below.refl _ _).alloc (Nat.le_refl _) _
  have x2 : W2.heap[w.heap.size]? = some (.cells #[.slice a len cap] 24 (0, 0)) := (b2.block _ (by omega)).trans x1
  have c2 : W2.cell? ⟨w.heap.size, 0, none⟩ = some (.slice a len cap) := cell_of_row _ _ 0 _ _ _ x2
  have hG0 : GrowW (NamesR rows) 116 3 24 107 W1.heap.size 0 0 W2 := by rw [hW2]; exact GrowW.start W1 24 (NamesR.zero rows _)
  have HR := Lib.hid hr
  have HT := Lib.hid ht
  have HF := Lib.hid hF
  have H3 := Lib.hid h3
  have HW1 := Lib.hid hW1
  have HW2 := Lib.hid hW2
  have HB1 := Lib.hid b1
  have HX := Lib.hid (And.intro x1 (And.intro y1 (And.intro s1 (And.intro s2 (And.intro b2 hG0)))))
  clear hr ht hF h3 hW1 hW2 b1 x1 y1 s1 s2 b2 x2 hG0 ha0
  go_enter Tryz.func83, Tryz.ntmps83
  go_wp2_with fail
  rw [← HW1.out, ← HW2.out]
  go_wp2_with fail
  go_loopw [9] (fun x9 wr => ∃ i : Nat, i ≤ len ∧ x9 = .int .i64 i ∧ Below W1.heap.size W1 wr ∧ GrowW (NamesR rows) 116 3 24 107 W1.heap.size (nodesRows (rows.take i) + i) i wr) (fun x9 _ => len - (intOf x9).toNat)
  case atStart => exact ⟨0, by omega, rfl, HX.out.2.2.2.2.1, by simpa [nodesRows] using HX.out.2.2.2.2.2⟩
  case round =>
    obtain ⟨i, hi, rfl, hBr, hG⟩ := hrel
    have hGlt := hG.lt
    have hS : W1.heap.size = w.heap.size + 1 + 1 := HX.out.2.2.1
    clear c2
    by_cases hlt : i < len
    case pos =>
      have hri : rows[i]? = some (rows[i]'(by omega)) := List.getElem?_eq_getElem _
      generalize rows[i]'(by omega) = r at hri
      obtain ⟨rfl, hFb, hbl, hrd⟩ := H3.out i r hri
      obtain ⟨tag, at_, lat, kat, ats, p, ac, lc, cc, rc, rfl, hra, hta, hrc, htc, q0, q1, q2, q3⟩ := node_at hri HT.out hrd
      have hBw : Below w.heap.size w wr := HB1.out.trans (hBr.mono HB1.out.size)
      have p0 := (hBw.cell (p := ⟨b, o + i * 4, none⟩) hbl).trans q0
      have p1 := (hBw.cell (p := ⟨b, o + i * 4 + 1, none⟩) hbl).trans q1
      have p2 := (hBw.cell (p := ⟨b, o + i * 4 + 2, none⟩) hbl).trans q2
      have p3 := (hBw.cell (p := ⟨b, o + i * 4 + 3, none⟩) hbl).trans q3
      obtain ⟨V, hV⟩ : ∃ V, V = wr.alloc (Obj.cells #[Value.string tag, Value.slice at_ lat kat, Value.int .i64 p, Value.slice ac lc cc] 107) := ⟨_, rfl⟩
      have hn1 := nodesRow_at rows i _ hri
      have hll : lat ≤ ats.length ∧ lc ≤ rc.length := by
        have h4 := hra
        have h5 := hrc
        simp only [Rd] at h4 h5
        obtain ⟨_, _, h6, _⟩ := h4
        obtain ⟨_, _, h7, _⟩ := h5
        exact ⟨h6, h7⟩
      have hlat : lat ≤ 1099511627776 ∧ lc ≤ 1099511627776 := by
        simp only [nodesRow, nodes] at hn1
        have g1 := nodesRows_len ats
        have g2 := nodesRows_len rc
        omega
      have hbV : Below wr.heap.size wr V := by rw [hV]; exact (Below.refl _ _).alloc (Nat.le_refl _) _
      have sV : V.heap.size = wr.heap.size + 1 := by rw [hV, alloc_size]
      have tV : V.heap[wr.heap.size]? = some (.cells #[Value.string tag, Value.slice at_ lat kat, Value.int .i64 p, Value.slice ac lc cc] 107 (0, 0)) := by rw [hV]; exact heap_alloc_new wr _
      have hwV : Below w.heap.size w V := hBw.trans (hbV.mono hBw.size)
      have h34 : ∀ W, Below V.heap.size V W → Calls Tryz.prog 104 #[.slice at_ lat kat] W fun e w' => ∃ a1 c1, e = .returned (.slice a1 lat c1) ∧ AttV (fun k => V.heap.size ≤ k) w' 116 (.slice a1 lat c1) lat ∧ NamesAt w' a1 lat (nameOf ats) ∧ Below V.heap.size V w' := by
        intro W hW
        have hwW : Below w.heap.size w W := hwV.trans (hW.mono (by have := hBw.size; omega))
        refine (clone_atts F W _ lat kat ats (Rd.mono (fun k hk => ⟨hk, hwW.block k (HF.out k hk)⟩) _ _ hra) hta (fun k hk => Nat.lt_of_lt_of_le (HF.out k hk) hwW.size) hlat.1).mono ?_
        rintro e w' ⟨⟨v, rfl, hv, a1, c1, rfl, hnm⟩, hb⟩
        exact ⟨a1, c1, rfl, hv.mono (fun k hk => ⟨Nat.le_trans hW.size hk, fun _ _ h => h⟩), hnm, hW.trans (hb.mono hW.size)⟩
      have h35 : ∀ W, Below V.heap.size V W → Calls Tryz.prog 106 #[.slice ac lc cc] W fun e w' => ∃ a1 c1, e = .returned (.slice a1 lc c1) ∧ KidV (fun k => V.heap.size ≤ k) w' 3 (.slice a1 lc c1) lc ∧ Below W.heap.size W w' := by
        intro W hW
        have hwW : Below w.heap.size w W := hwV.trans (hW.mono (by have := hBw.size; omega))
        refine (clone_kids F W _ lc cc rc (Rd.mono (fun k hk => ⟨hk, hwW.block k (HF.out k hk)⟩) _ _ hrc) htc hlat.2).mono ?_
        rintro e w' ⟨⟨v, rfl, hv⟩, hb⟩
        have hf : ∃ a1 c1, v = .slice a1 lc c1 := by
          rcases hv with ⟨h, h0⟩ | ⟨g, c, h, _⟩
          · exact ⟨none, 0, by rw [h, h0]⟩
          · exact ⟨_, c, h⟩
        obtain ⟨a1, c1, rfl⟩ := hf
        refine ⟨a1, c1, rfl, ?_, hb⟩
        rcases hv with h | ⟨g, c, h, hg, hi⟩
        · exact .inl h
        · exact .inr ⟨g, c, h, Nat.le_trans hW.size hg, hi⟩
      have vc1 : V.cell? ⟨wr.heap.size, 1, none⟩ = some (Value.slice at_ lat kat) := cell_of_row _ _ 1 _ _ _ tV
      have vc3 : V.cell? ⟨wr.heap.size, 3, none⟩ = some (Value.slice ac lc cc) := cell_of_row _ _ 3 _ _ _ tV
      have H34 := Lib.hid h34
      have H35 := Lib.hid h35
      have HV := Lib.hid hV
      have HBR := Lib.hid (And.intro hBr (And.intro hG (And.intro hri (And.intro hta htc))))
      have HVV := Lib.hid (And.intro hwV (And.intro sV (And.intro tV hbV)))
      have HNN := Lib.hid (And.intro hn1 hll)
      have gT : wr.heap.size < V.heap.size := by omega
      clear h34 h35 hV hBr hG hra hta hrc htc q0 q1 q2 q3 hrd hwV tV hbV sV hn1 hll hBw
      go_wp2_with fail
      rw [← HV.out]
      go_region_with (first
        | (go_at_call 104; refine (H34.out _ ?_).mono ?_; (repeat (first | exact Below.refl _ _ | refine below_drew ?_ | refine below_drewN ?_ _)); rintro e w2 ⟨a1, c1, rfl, hv1, hnm1, hb2⟩; have hT2 := (hb2.block _ gT).trans HVV.out.2.2.1; have vd3 : w2.cell? ⟨wr.heap.size, 3, none⟩ = some (Value.slice ac lc cc) := cell_of_row _ _ 3 _ _ _ hT2)
        | (go_at_call 106; refine (H35.out _ ?_).mono ?_; (repeat (first | exact hb2 | refine below_drew ?_ | refine below_drewN ?_ _)); rintro e w3 ⟨a3, c3, rfl, hv3, hb3⟩; have hT3 := (hb3.block _ (Nat.lt_of_lt_of_le gT hb2.size)).trans hT2; have ve1 : w3.cell? ⟨wr.heap.size, 1, none⟩ = some (Value.slice at_ lat kat) := cell_of_row _ _ 1 _ _ _ hT3; have ve3 : w3.cell? ⟨wr.heap.size, 3, none⟩ = some (Value.slice ac lc cc) := cell_of_row _ _ 3 _ _ _ hT3; have vf1 : w3.frozen? ⟨wr.heap.size, 1, none⟩ = false := (by simp [World.frozen?, hT3]); have vf3 : w3.frozen? ⟨wr.heap.size, 3, none⟩ = false := (by simp [World.frozen?, hT3])))
      all_goals
        have sw : wr.heap.size < V.heap.size := gT
        obtain ⟨W3, hW3⟩ : ∃ W, W = (w3.setCell ⟨wr.heap.size, 1, none⟩ (.slice a1 lat c1)).setCell ⟨wr.heap.size, 3, none⟩ (.slice a3 lc c3) := ⟨_, rfl⟩
        have hT4 : W3.heap[wr.heap.size]? = some (.cells #[Value.string tag, Value.slice a1 lat c1, Value.int .i64 p, Value.slice a3 lc c3] 107 (0, 0)) := by rw [hW3]; exact setCell_at (setCell_at hT3)
        have b3 : Below wr.heap.size wr W3 := by
          rw [hW3]
          exact ((HVV.out.2.2.2.trans ((hb2.trans (hb3.mono hb2.size)).mono (by omega))).setCell (Nat.le_refl _) _).setCell (Nat.le_refl _) _
        have size3 : W3.heap.size = w3.heap.size := by rw [hW3, setCell_size, setCell_size]
        have keep3 : ∀ k, V.heap.size ≤ k → W3.heap[k]? = w3.heap[k]? := fun k hk => by rw [hW3]; exact (Below.heap_setCell _ _ _ _ (by show k ≠ wr.heap.size; omega)).trans (Below.heap_setCell _ _ _ _ (by show k ≠ wr.heap.size; omega))
        have nwA : ∀ k, V.heap.size ≤ k → ∀ n c, TxtAt W3 116 k n c → Nw V.heap.size W3 k := fun k hk n c h => ⟨hk, h.lt, by obtain ⟨cur, h1, _⟩ := h; exact ⟨cur, 116, h1⟩⟩
        have nwK : ∀ k, V.heap.size ≤ k → ∀ n c, IntsAt W3 3 k n c → Nw V.heap.size W3 k := fun k hk n c h => ⟨hk, h.lt, by obtain ⟨cur, h1, _⟩ := h; exact ⟨cur, 3, h1⟩⟩
        have rv1 : AttV (fun k => (Nw V.heap.size W3 k ∧ ∃ n c, TxtAt W3 116 k n c)) W3 116 (.slice a1 lat c1) lat := by
          rcases hv1 with h | ⟨g, c, h, hg, hi⟩
          · exact .inl h
          · have h1 := hi.keep (hb3.block g hi.lt)
            have h2 := h1.keep (keep3 g hg)
            exact .inr ⟨g, c, h, ⟨nwA g hg _ _ h2, _, _, h2⟩, h2⟩
        have rv3 : KidV (fun k => (Nw V.heap.size W3 k ∧ ∃ n c, IntsAt W3 3 k n c)) W3 3 (.slice a3 lc c3) lc := by
          rcases hv3 with h | ⟨g, c, h, hg, hi⟩
          · exact .inl h
          · have h2 := hi.keep (keep3 g hg)
            exact .inr ⟨g, c, h, ⟨nwK g hg _ _ h2, _, _, h2⟩, h2⟩
        have nm3 : NamesAt W3 a1 lat (nameOf ats) := NamesAt.keep hnm1 (fun g cur e => by
          have hl := (Array.getElem?_eq_some_iff.1 e).1
          by_cases hgw : g = wr.heap.size
          · subst hgw; rw [hT2] at e; cases e
          · rw [hW3]; exact (Below.heap_setCell _ _ _ _ hgw).trans ((Below.heap_setCell _ _ _ _ hgw).trans (hb3.block g hl)))
        obtain ⟨hBr, hG, hri, hta, htc⟩ := HBR.out
        obtain ⟨aG, cG, xs, F4, J4, hP⟩ := hG.parts b3 (fun xs h => NamesR.keep h (fun g cur e => b3.block g (Array.getElem?_eq_some_iff.1 e).1))
        have k1 := hP.hd
        have k2 := hP.own
        have k5 := fun k hk => (hP.hu k).1 hk
        have d4 : W3.cell? ⟨w.heap.size + 1 + 1, 0, none⟩ = some (.slice aG i cG) := by rw [← hS]; exact cell_of_row _ _ 0 _ _ _ k1
        have t0 : W3.cell? ⟨wr.heap.size, 0, none⟩ = some (.string tag) := cell_of_row _ _ 0 _ _ _ hT4
        have t1 : W3.cell? ⟨wr.heap.size, 1, none⟩ = some (.slice a1 lat c1) := cell_of_row _ _ 1 _ _ _ hT4
        have t2 : W3.cell? ⟨wr.heap.size, 2, none⟩ = some (.int .i64 p) := cell_of_row _ _ 2 _ _ _ hT4
        have t3 : W3.cell? ⟨wr.heap.size, 3, none⟩ = some (.slice a3 lc c3) := cell_of_row _ _ 3 _ _ _ hT4
        have g1 : W1.heap.size < W3.heap.size := Nat.lt_of_lt_of_le hGlt b3.size
        have g2 : wr.heap.size < W3.heap.size := (Array.getElem?_eq_some_iff.1 hT4).1
        have hD : ∀ X w5, (W3.alloc X).grownBy w5 (Value.slice aG i cG).ownBlock → w5.heap[W1.heap.size]? = some (.cells #[.slice aG i cG] 24 (0, 0)) := fun X w5 hg =>
          (hg.block _ (by rw [alloc_size]; omega) (fun e => by have := (k5 _ e.symm).1; omega)).trans ((Below.heap_alloc _ _ _ g1).trans k1)
        have hrest : ∀ (X : Obj) (w5 : World) (g cp : Nat), w5.ownsRow (W1.heap.size + 1) 107 4 (.slice (some ⟨g, 0, none⟩) (i + 1) cp) (i + 1) (xs ++ [.string tag, .slice a1 lat c1, .int .i64 p, .slice a3 lc c3]) → (W3.alloc X).grownBy w5 (Value.slice aG i cG).ownBlock → ((Value.slice aG i cG).ownBlock = some g ∨ g = (W3.alloc X).heap.size) →
            Below W1.heap.size W1 (w5.setCell ⟨W1.heap.size, 0, none⟩ (.slice (some ⟨g, 0, none⟩) (i + 1) cp)) ∧ GrowW (NamesR rows) 116 3 24 107 W1.heap.size (nodesRows (rows.take (i + 1)) + (i + 1)) (i + 1) (w5.setCell ⟨W1.heap.size, 0, none⟩ (.slice (some ⟨g, 0, none⟩) (i + 1) cp)) := by
          intro X w5 g cp ho hg hor
          have h1 := ht_at _ _ _ HT.out hri
          simp only [HtRow, and_true] at h1
          have hp := GrowPW.push (R := NamesR rows) (T := 24) (A := 116) (I := 3) (us := [.string tag, .slice a1 lat c1, .int .i64 p, .slice a3 lc c3]) (F2 := fun k => (Nw V.heap.size W3 k ∧ ∃ n c, TxtAt W3 116 k n c)) (J2 := fun k => (Nw V.heap.size W3 k ∧ ∃ n c, IntsAt W3 3 k n c)) (q := 6 + 3 * lat + 2 * lc)
            hP ⟨tag, _, p, _, lat, lc, rfl, by have := h1.1; simp only [Ht] at this; exact this.2, by have := h1.2.2.1; simp only [Ht] at this; exact this.2, rv1, rv3, Nat.le_refl _⟩ (NamesR.keep (NamesR.snoc (NodesW.length _ _ _ hP.ns) hP.hR hri nm3) (fun j cur e => by
              have hj := (Array.getElem?_eq_some_iff.1 e).1
              have hjd : j ≠ W1.heap.size := fun h => by subst h; rw [k1] at e; cases e
              have hjo : some j ≠ (Value.slice aG i cG).ownBlock := fun h => by
                obtain ⟨_, cur2, e2⟩ := own_block' k2 h.symm
                rw [e2] at e; cases e
              exact (Below.heap_setCell _ _ _ _ hjd).trans ((hg.block j (by rw [alloc_size]; omega) hjo).trans (Below.heap_alloc _ _ _ hj))))
            (fun k hk => ⟨(Nw.lower (by omega) k hk.1).1, by have := hk.1.1; omega⟩) (fun k hk => ⟨(Nw.lower (by omega) k hk.1).1, by have := hk.1.1; omega⟩) (fun k hk hj => by
              obtain ⟨_, n1, c1, x1, e1, _⟩ := hk
              obtain ⟨_, n2, c2, x2, e2, _⟩ := hj
              rw [e1] at e2
              cases e2) ho hg hor
          have hb5 := hp.2 W1.heap.size (Nat.le_refl _)
          refine ⟨(hBr.trans (b3.mono (by omega))).trans hb5, hp.1.more ?_⟩
          rw [take_nodes_succ hri]
          have e1 := atts_nodes ats hta
          have e2 := kids_nodes2 rc htc
          have e3 := HNN.out.2
          simp only [nodesRow, nodes, e1, e2]
          omega
        have HRE := Lib.hid hrest
        have HD := Lib.hid hD
        have HW3 := Lib.hid hW3
        clear hW3 hrest hD hP k5 rv1 rv3 hT4 b3 hBr hG hri hta htc hb2 hb3 hv1 hv3 hT2 hT3 vd3 ve1 ve3 vf1 vf3 vc1 vc3 k1 p0 p1 p2 p3 keep3 nwA nwK size3
        rw [← HW3.out]
        go_wp2_with (at_builtin; go_must (refine wpList_append_lies _ rfl _ _ 22 rfl (W1.heap.size + 1) 107 i0 _ 4 72 Tryz.underlying22 hi0 hz0 hz1 hz2 rfl (by decide) (.slice aG i cG) i xs rfl (k2.alloc _) _ 1 1 [.string tag, .slice a1 lat c1, .int .i64 p, .slice a3 lc c3] rfl rfl (World.news_of_block (heap_alloc_new W3 _)) (by simp [Value.oneCell']) (by decide) (by simp [maxLen]; omega) (by omega) (by rw [alloc_size]; omega) _ rfl ?_; intro g cp w5 ho hg hor hlt5; have hd5 := HD.out _ _ hg; have hc5 : w5.cell? ⟨w.heap.size + 1 + 1, 0, none⟩ = some (.slice aG i cG) := (by rw [← hS]; exact cell_of_row _ _ 0 _ _ _ hd5); have hf5 : w5.frozen? ⟨w.heap.size + 1 + 1, 0, none⟩ = false := (by rw [← hS]; simp [World.frozen?, hd5])))
        obtain ⟨e1, e2⟩ := HRE.out _ w5 g cp ho hg hor
        rw [← hS]
        exact ⟨⟨i + 1, by omega, by go_num, e1, e2⟩, by simp [intOf]; omega⟩
    case neg =>
      obtain rfl : i = len := by omega
      obtain ⟨aG, cG, xs, F4, J4, hP⟩ := hG.parts (Below.refl _ _) (fun _ h => h)
      have k1 := hP.hd
      have k2 := hP.own
      have d4 : wr.cell? ⟨w.heap.size + 1 + 1, 0, none⟩ = some (.slice aG i cG) := by rw [← hS]; exact cell_of_row _ _ 0 _ _ _ k1
      obtain ⟨g, rfl⟩ : ∃ g, aG = some ⟨g, 0, none⟩ := by
        rcases k2.2 with ⟨h, h0⟩ | ⟨g, cap', cur, h, _⟩
        · omega
        · injection h with h; exact ⟨g, h⟩
      have hg := (hP.hu g).1 (by simp [Value.ownBlock])
      have z1 : wr.heap[w.heap.size + 1]? = some (.cells #[.slice none 0 0] 24 (0, 0)) := (hBr.block _ (by omega)).trans HX.out.2.1
      have c3 : wr.cell? ⟨w.heap.size + 1, 0, none⟩ = some (.slice none 0 0) := cell_of_row _ _ 0 _ _ _ z1
      have f3 : wr.frozen? ⟨w.heap.size + 1, 0, none⟩ = false := by simp [World.frozen?, z1]
      have HK := Lib.hid (And.intro k2 (And.intro hP hBr))
      have HZ := Lib.hid z1
      clear k1 k2 hP hBr hG z1
      go_wp2_with fail
      obtain ⟨k2, hP, hBr⟩ := HK.out
      obtain ⟨W6, hW6⟩ : ∃ W, W = wr.setCell ⟨w.heap.size + 1, 0, none⟩ (.slice (some ⟨g, 0, none⟩) i cG) := ⟨_, rfl⟩
      have f0 : W6.cell? ⟨w.heap.size + 1, 0, none⟩ = some (.slice (some ⟨g, 0, none⟩) i cG) := by rw [hW6]; exact cell_of_row _ _ 0 _ _ _ (setCell_one HZ.out)
      rw [← hW6]
      have keep : ∀ k, k ≠ w.heap.size + 1 → W6.heap[k]? = wr.heap[k]? := fun k e2 => by rw [hW6]; exact Below.heap_setCell _ _ _ _ e2
      have size6 : W6.heap.size = wr.heap.size := by rw [hW6, setCell_size]
      have o6 : W6.ownsRow (W1.heap.size + 1) 107 4 (.slice (some ⟨g, 0, none⟩) i cG) i xs := by rw [hW6]; exact ownsRow_setCell_below k2 (by show w.heap.size + 1 < W1.heap.size + 1; omega) _
      have bEnd : Below w.heap.size w W6 := by
        rw [hW6]
        exact (HB1.out.trans (hBr.mono (by omega))).setCell (by show w.heap.size ≤ w.heap.size + 1; omega) _
      have ne : ∀ k, (Value.slice (some ⟨g, 0, none⟩) i cG).ownBlock ≠ some k → k ≠ g := fun k h e => h (by rw [e]; rfl)
      refine bodyPost_ret (v := .agg #[.slice (some ⟨g, 0, none⟩) i cG]) (by simp [results, Tryz.results83, go_sem, f0]) rfl ⟨⟨g, cG, rfl, xs, F4, J4, NamesR.keep hP.hR (fun j cur e => keep j (fun h => by subst h; rw [HZ.out] at e; cases e)), ⟨o6.1, ?_⟩, NodesW.more _ _ _ _ ?_ (NodesW.mono (fun k hk => ⟨hk, fun _ _ hi => hi.keep (keep k (by have := (hP.hF k hk).1.1; omega))⟩) (fun k hk => ⟨hk, fun _ _ hi => hi.keep (keep k (by have := (hP.hJ k hk).1.1; omega))⟩) _ _ _ hP.ns), fun k hk => ?_, fun k hk => ?_⟩, bEnd⟩
      · rcases o6.2 with h | ⟨g', cap', cur, h, hb, hh⟩
        · exact .inl h
        · exact .inr ⟨g', cap', cur, h, by omega, hh⟩
      · have e1 := take_nodes_le i rows
        omega
      · have h := hP.hF k hk
        exact ⟨⟨by have := h.1.1; omega, by rw [size6]; exact h.1.2.1⟩, ne k h.2⟩
      · have h := hP.hJ k hk
        exact ⟨⟨by have := h.1.1; omega, by rw [size6]; exact h.1.2.1⟩, ne k h.2⟩
end Go.Proofs.YtomnkglnbmnmpaaGreatDoor
