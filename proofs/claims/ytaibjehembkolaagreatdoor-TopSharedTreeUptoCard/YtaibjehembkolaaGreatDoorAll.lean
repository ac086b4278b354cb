/- A row of data shown to an eye, one after another. -/
import Derived.Test.YtaibjehembkolaaGreatDoorSee
namespace Go.Vt
open Go.RowKit

/-- What 'all' is handed: a slice that reads as rows. -/
structure SlPre (e1 e2 : Nat) (tab : Nat → List CT) (E : Nat) (mk rm : Bool) (sz len cap : Nat) (rows : List (List C)) (v : Value) (F : Nat → Prop) (w : World) (be oe B : Nat) (ns : List Int) (ss : List ByteArray) (at_ : Int) : Prop where
  hsz : sz = (tab E).length
  ht : HtRows tab (tab E) rows
  rd : Rd F w (.sl sz len cap rows) v
  uf : mk = true → ∀ k, F k → ∃ c e, w.heap[k]? = some (.cells c e (0, 0))
  fb : ∀ k, F k → k < B ∧ k ≠ be
  bs : B ≤ w.heap.size
  eye : Eye e1 e2 w be oe B ns ss mk at_ rm
  room : rm = true → rows.length = cap ∧ RoomyRows rows
  ln : ns.length + nodes (.sl sz len cap rows) ≤ lim
  ls : ss.length + nodes (.sl sz len cap rows) ≤ lim
  a0 : 0 ≤ at_
  la : at_ + nodes (.sl sz len cap rows) ≤ lim

/-- f is 'all' at elements of type E. -/
def AllOK (P : Program) (e1 e2 : Nat) (tab : Nat → List CT) (n : Nat) (f : FuncId) (E : Nat) : Prop :=
  ∀ (one : FuncId), SeeOK P e1 e2 tab n one (tab E) → (∀ args w, (callFunc one args).run P w = .ok (.enter one args) w) → ∀ (mk rm : Bool) (sz len cap : Nat) (rows : List (List C)) (v : Value) (F : Nat → Prop) (w : World) (be oe B : Nat) (ns : List Int) (ss : List ByteArray) (at_ : Int),
    nodes (.sl sz len cap rows) ≤ n + 1 → SlPre e1 e2 tab E mk rm sz len cap rows v F w be oe B ns ss at_ →
    Calls P f #[.pointer (some ⟨be, oe, none⟩), v, .func (.func one) #[] #[]] w (SeePost e1 e2 mk rm (nodes (.sl sz len cap rows)) (obsN rm (.sl sz len cap rows)) (obsS rm (.sl sz len cap rows)) F w be oe B ns ss at_)

theorem obsNRows_snoc (rm : Bool) : ∀ (i : Nat) (rows : List (List C)) (r : List C), rows[i]? = some r → obsNRows rm (i + 1) rows = obsNRows rm i rows ++ obsNRow rm r
  | 0, [], _, h => by simp at h
  | 0, x :: xs, r, h => by simp at h; subst h; cases xs <;> simp [obsNRows]
  | i + 1, [], _, h => by simp at h
  | i + 1, x :: xs, r, h => by
    rw [obsNRows, obsNRows_snoc rm i xs r (by simpa using h)]; simp [obsNRows, List.append_assoc]
theorem obsSRows_snoc (rm : Bool) : ∀ (i : Nat) (rows : List (List C)) (r : List C), rows[i]? = some r → obsSRows rm (i + 1) rows = obsSRows rm i rows ++ obsSRow rm r
  | 0, [], _, h => by simp at h
  | 0, x :: xs, r, h => by simp at h; subst h; cases xs <;> simp [obsSRows]
  | i + 1, [], _, h => by simp at h
  | i + 1, x :: xs, r, h => by
    rw [obsSRows, obsSRows_snoc rm i xs r (by simpa using h)]; simp [obsSRows, List.append_assoc]
theorem sl_addr {F : Nat → Prop} {w : World} {sz len cap : Nat} {rows : List (List C)} {a : Option Addr} (h : Rd F w (.sl sz len cap rows) (.slice a len cap)) : ∃ b o, rows ≠ [] → a = some ⟨b, o, none⟩ := by
  simp only [Rd] at h
  obtain ⟨a', h1, _, _, h4⟩ := h
  rcases h4 with h4 | ⟨b, o, e, _⟩
  · exact ⟨0, 0, fun hn => absurd h4 hn⟩
  · injection h1 with h1; exact ⟨b, o, fun _ => h1.trans e⟩
theorem HtRow.sl1 {tab : Nat → List CT} {E : Nat} {cs : List C} (h : HtRow tab [.sl E] cs) : ∃ sz len cap rows, cs = [.sl sz len cap rows] := by
  match cs, h with
  | [.int k' m], h => simp [HtRow, Ht] at h
  | [.bool _], h => simp [HtRow, Ht] at h
  | [.str s], h => simp [HtRow, Ht] at h
  | [.sl a b c d], h => exact ⟨a, b, c, d, rfl⟩
  | [], h => simp [HtRow] at h
  | _ :: _ :: _, h => simp [HtRow] at h
theorem rd_sl {F : Nat → Prop} {w : World} {b o : Nat} {c : C} (h : RdRow F w b o [c]) : ∃ v, w.cell? ⟨b, o, none⟩ = some v ∧ Rd F w c v := by
  simpa only [RdRow, and_true] using h
theorem one_row (rm : Bool) (c : C) : nodesRow [c] = nodes c ∧ obsNRow rm [c] = obsN rm c ∧ obsSRow rm [c] = obsS rm c := by simp [nodesRow, obsNRow, obsSRow]
theorem nodesRows_app : ∀ (a b : List (List C)), nodesRows (a ++ b) = nodesRows a + nodesRows b
  | [], b => by simp [nodesRows]
  | c :: cs, b => by simp only [List.cons_append, nodesRows, nodesRows_app cs b]; omega
theorem nodesRows_take (i : Nat) (rows : List (List C)) : nodesRows (rows.take i) + nodesRows (rows.drop i) = nodesRows rows := by
  rw [← nodesRows_app, List.take_append_drop]
theorem MkRows.cons {r : List C} {rs rs' : List (List C)} (h : MkRows (r :: rs) rs') : ∃ r' t', rs' = r' :: t' ∧ MkRow r r' ∧ MkRows rs t' := by simpa only [MkRows] using h
theorem HtRows.drop {tab : Nat → List CT} {ts : List CT} : ∀ (i : Nat) (rows : List (List C)), HtRows tab ts rows → HtRows tab ts (rows.drop i)
  | 0, _, h => h
  | i + 1, [], h => by simp [HtRows]
  | i + 1, r :: rs, h => by simp only [HtRows] at h; simpa using HtRows.drop i rs h.2
theorem RoomyRows.drop : ∀ (i : Nat) (rows : List (List C)), RoomyRows rows → RoomyRows (rows.drop i)
  | 0, _, h => h
  | i + 1, [], h => by simp [RoomyRows]
  | i + 1, r :: rs, h => by simp only [RoomyRows] at h; simpa using RoomyRows.drop i rs h.2

/-- Where 'all' stands behind i rows. -/
structure AllAt (e1 e2 : Nat) (mk rm : Bool) (len : Nat) (rows : List (List C)) (F : Nat → Prop) (w : World) (be oe B : Nat) (ns : List Int) (ss : List ByteArray) (at_ : Int) (b o sz i : Nat) (wr : World) : Prop where
  seen : ∃ ns' ss' at', Seen e1 e2 mk rm (1 + nodesRows (rows.take i)) ((len : Int) :: obsNRows rm i rows) (obsSRows rm i rows) F w be oe B ns ss at_ wr ns' ss' at'
  rest : i < rows.length → F b ∧ ∃ rest, MkRows (rows.drop i) rest ∧ (mk = false → rest = rows.drop i) ∧ RdRows F wr b sz (o + i * sz) rest

section
variable {e1 e2 : Nat} {tab : Nat → List CT} {E : Nat} {mk rm : Bool} {sz len cap : Nat} {rows : List (List C)} {v : Value} {F : Nat → Prop} {w : World} {be oe B : Nat} {ns : List Int} {ss : List ByteArray} {at_ : Int} {b o : Nat}
theorem SeePre.sl {b o : Nat} {rows : List (List C)} (h : SeePre e1 e2 tab [.sl E] mk rm [.sl sz len cap rows] F w be oe B b o ns ss at_) (hv : Rd F w (.sl sz len cap rows) v) :
    SlPre e1 e2 tab E mk rm sz len cap rows v F w be oe B ns ss at_ := by
  have ht := h.ht
  simp only [HtRow, Ht, and_true, CT.sl.injEq] at ht
  obtain ⟨e, he, h1, h2⟩ := ht
  subst he
  have l1 := h.ln; have l2 := h.ls; have l3 := h.la
  simp only [nodesRow, Nat.add_zero] at l1 l2 l3
  refine ⟨h1, h2, hv, h.uf, h.fb, h.bs, h.eye, fun hr => ?_, l1, l2, h.a0, l3⟩
  have := h.room hr
  simpa only [RoomyRow, Roomy, and_true] using this
/-- The head: the length has been pushed. -/
theorem AllAt.start {a : Option Addr} {w1 : World} {ns1 : List Int} {ss1 : List ByteArray} {a1 : Int} (h : SlPre e1 e2 tab E mk rm sz len cap rows (.slice a len cap) F w be oe B ns ss at_)
    (ha : rows ≠ [] → a = some ⟨b, o, none⟩) (hs : Seen e1 e2 mk rm 1 [(len : Int)] [] F w be oe B ns ss at_ w1 ns1 ss1 a1) : AllAt e1 e2 mk rm len rows F w be oe B ns ss at_ b o sz 0 w1 := by
  refine ⟨⟨ns1, ss1, a1, by simpa [nodesRows, obsNRows, obsSRows] using hs⟩, fun hi => ?_⟩
  have hne : rows ≠ [] := by intro e; subst e; simp at hi
  have ha := ha hne
  have hr := h.rd
  simp only [Rd] at hr
  obtain ⟨a', h1, h2, h3, h4⟩ := hr
  rcases h4 with h4 | ⟨b', o', e, hF, h4⟩
  · exact absurd h4 hne
  · rw [e, ha] at h1; simp at h1; obtain ⟨rfl, rfl⟩ := h1
    obtain ⟨rs, k1, k2, k3⟩ := Rd.chgMkRows hs.chg.chg hF h4
    exact ⟨hF, rs, by simpa using k1, by simpa using k2, by simpa using k3⟩
/-- One row more. -/
theorem AllAt.next {i : Nat} {wr : World} (h : SlPre e1 e2 tab E mk rm sz len cap rows v F w be oe B ns ss at_) (hA : AllAt e1 e2 mk rm len rows F w be oe B ns ss at_ b o sz i wr) (hi : i < rows.length) :
    ∃ cs ns1 ss1 a1, nodesRow cs < nodes (.sl sz len cap rows) ∧ SeePre e1 e2 tab (tab E) mk rm cs F wr be oe B b (o + i * sz) ns1 ss1 a1 ∧
      ∀ (e : Ending) (w2 : World), SeePost e1 e2 mk rm (nodesRow cs) (obsNRow rm cs) (obsSRow rm cs) F wr be oe B ns1 ss1 a1 e w2 → e = .returned (.tuple #[]) ∧ AllAt e1 e2 mk rm len rows F w be oe B ns ss at_ b o sz (i + 1) w2 := by
  obtain ⟨ns1, ss1, a1, hs⟩ := hA.seen
  obtain ⟨hF, rest, m1, m2, m3⟩ := hA.rest hi
  obtain ⟨r, hr⟩ : ∃ r, rows[i]? = some r := ⟨rows[i], by simp [hi]⟩
  have hd : rows.drop i = r :: rows.drop (i + 1) := by
    rw [List.drop_eq_getElem_cons hi]; rw [List.getElem?_eq_getElem hi] at hr; injection hr with hr; rw [hr]
  have ht := HtRows.drop i rows h.ht
  rw [hd] at m1 m2 ht
  obtain ⟨r', t', rfl, q1, q2⟩ := m1.cons
  simp only [RdRows] at m3
  simp only [HtRows] at ht
  have hn := MkRow.nodes _ _ q1
  have htake := nodesRows_take i rows
  rw [hd] at htake
  simp only [nodesRows] at htake
  have l1 := h.ln; have l2 := h.ls; have l3 := h.la
  have hnn : nodes (.sl sz len cap rows) = 1 + nodesRows rows := by simp only [nodes]
  rw [hnn] at l1 l2 l3
  have s1 := hs.ln; have s2 := hs.ls; have s3 := hs.la; have s4 := hs.a0; have a0 := h.a0
  refine ⟨r', ns1, ss1, a1, by rw [hnn]; omega, ⟨MkRow.ht _ _ _ q1 ht.1, hF, m3.1.2, ?_, h.fb, Nat.le_trans h.bs hs.chg.fr.size, hs.eye, ?_, by omega, by omega, by omega, by omega⟩, ?_⟩
  · intro hm k hk
    have := hs.chg.chg k hk
    rw [if_pos hm] at this
    exact this.blk
  · intro hrm
    have := RoomyRows.drop i rows (h.room hrm).2
    rw [hd] at this
    simp only [RoomyRows] at this
    exact MkRow.roomy _ _ q1 this.1
  · rintro e w2 ⟨rfl, ns2, ss2, a2, hs2⟩
    refine ⟨rfl, ⟨ns2, ss2, a2, ?_⟩, fun hi' => ⟨hF, ?_⟩⟩
    · have := hs.trans hs2
      have htk : nodesRows (rows.take (i + 1)) = nodesRows (rows.take i) + (1 + nodesRow r) := by
        have h2 := nodesRows_take (i + 1) rows; omega
      refine ⟨this.eye, by have := this.ln; omega, by have := this.ls; omega, this.a0, by have := this.la; omega, fun hm => ?_, this.chg⟩
      have hc := m2 hm
      injection hc with hc _
      subst hc
      rw [obsNRows_snoc rm i rows _ hr, obsSRows_snoc rm i rows _ hr]
      simpa using this.same hm
    · obtain ⟨rs, k1, k2, k3⟩ := Rd.chgMkRows hs2.chg.chg hF m3.2
      refine ⟨rs, MkRows.trans _ _ _ q2 k1, fun hm => ?_, ?_⟩
      · have hc := m2 hm
        injection hc with _ hc
        rw [k2 hm, hc]
      · rw [show o + (i + 1) * sz = o + i * sz + sz from by rw [Nat.succ_mul]; omega]; exact k3
/-- All rows have been seen. -/
theorem AllAt.done {wr : World} (hA : AllAt e1 e2 mk rm len rows F w be oe B ns ss at_ b o sz (if rm = true then rows.length else len) wr) :
    SeePost e1 e2 mk rm (nodes (.sl sz len cap rows)) (obsN rm (.sl sz len cap rows)) (obsS rm (.sl sz len cap rows)) F w be oe B ns ss at_ (.returned (.tuple #[])) wr := by
  obtain ⟨ns1, ss1, a1, hs⟩ := hA.seen
  have htake := nodesRows_take (if rm = true then rows.length else len) rows
  refine ⟨rfl, ns1, ss1, a1, hs.eye, ?_, ?_, hs.a0, ?_, fun hm => by simpa [obsN, obsS] using hs.same hm, hs.chg⟩
  · have := hs.ln; simp only [nodes]; omega
  · have := hs.ls; simp only [nodes]; omega
  · have := hs.la; simp only [nodes]; omega
end
end Go.Vt
