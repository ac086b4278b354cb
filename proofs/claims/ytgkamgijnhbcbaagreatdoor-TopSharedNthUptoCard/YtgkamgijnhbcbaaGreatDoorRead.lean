/- An argument that the row reads as data is data of the shape that its type tells. -/
import Derived.Test.YtgkamgijnhbcbaaGreatDoorOwn
import Derived.Test.YtgkamgijnhbcbaaGreatDoorEye
import Derived.ProofKit
namespace Go.Vt
open Go.RowKit
def flatFs (P : Program) (f : TypeId → Option (List CT)) : Nat → List Field → Option (List CT)
  | _, [] => some []
  | o, x :: xs => if x.offset = o then (f x.type).bind fun ts => if P.cellsOf x.type = ts.length then (flatFs P f (o + ts.length) xs).map (ts ++ ·) else none else none
/-- The cells of a type, one after the other. -/
def flat (P : Program) : Nat → TypeId → Option (List CT)
  | 0, _ => none
  | n + 1, t => match P.underlying t with
    | some (.int k) => some [.int k]
    | some .bool => some [.bool]
    | some .string => some [.str]
    | some (.slice e) => some [.sl e]
    | some (.struct fs) => (flatFs P (flat P n) 0 fs.toList).bind fun ts => if P.cellsOf t = ts.length then some ts else none
    | _ => none
/-- Closed: each row's type is flat and stands in the table. -/
def TabOK (P : Program) (tab : Nat → List CT) (S : List Nat) : Prop :=
  ∀ e, e ∈ S → (∃ n, flat P n e = some (tab e)) ∧ P.cellsOf e = (tab e).length ∧ 0 < (tab e).length ∧ ∀ e', CT.sl e' ∈ tab e → e' ∈ S
structure BulkOK {H : Type} (B : DataW H → Nat) (BA : List (DataW H) → Nat) : Prop where
  lit1 : ∀ l, 1 ≤ B (.lit l)
  str : ∀ s, B (.lit (.string s)) = s.length + 1
  nil : B .nil = 1
  sl : ∀ a b, B (.slice a b) = BA a + BA b + 1
  agg : ∀ l, B (.agg l) = BA l + 1
  n : BA [] = 0
  c : ∀ d r, BA (d :: r) = B d + BA r
theorem BulkOK.app {H : Type} {B : DataW H → Nat} {BA : List (DataW H) → Nat} (h : BulkOK B BA) : ∀ a b, BA (a ++ b) = BA a + BA b
  | [], b => by simp [h.n]
  | x :: a, b => by rw [List.cons_append, h.c, h.c, h.app a b]; omega
theorem RdVals.app {F : Nat → Prop} {w : World} : ∀ (a c : List C) (v1 v2 : List Value), RdVals F w a v1 → RdVals F w c v2 → RdVals F w (a ++ c) (v1 ++ v2)
  | [], _, [], _, _, h => h
  | _ :: a, c, _ :: v1, v2, h1, h2 => ⟨h1.1, RdVals.app a c v1 v2 h1.2 h2⟩
  | [], _, _ :: _, _, h, _ => h.elim
  | _ :: _, _, [], _, h, _ => h.elim
theorem HtRow.app {tab : Nat → List CT} : ∀ (t1 t2 : List CT) (a c : List C), HtRow tab t1 a → HtRow tab t2 c → HtRow tab (t1 ++ t2) (a ++ c)
  | [], _, [], _, _, h => h
  | t :: t1, t2, x :: a, c, h1, h2 => by simp only [HtRow] at h1; simp only [List.cons_append, HtRow]; exact ⟨h1.1, HtRow.app t1 t2 a c h1.2 h2⟩
  | [], _, _ :: _, _, h, _ => by simp [HtRow] at h
  | _ :: _, _, [], _, h, _ => by simp [HtRow] at h
theorem nodesRow_app2 : ∀ (a b : List C), nodesRow (a ++ b) = nodesRow a + nodesRow b
  | [], b => by simp [nodesRow]
  | x :: a, b => by simp only [List.cons_append, nodesRow, nodesRow_app2 a b]; omega
theorem wrap_of_wf {k : IntKind} {n : Int} (h : (Lit.int k n).wf = true) : k.wrap n = n := by
  simp only [Lit.wf, Bool.and_eq_true, decide_eq_true_eq] at h
  obtain ⟨h1, h2⟩ := h
  cases k <;> simp [IntKind.wrap, IntKind.min, IntKind.max, IntKind.signed, IntKind.bits] at h1 h2 ⊢ <;> (try split) <;> omega
theorem add_mk (b o m : Nat) : (⟨b, o, none⟩ : Addr).add m = ⟨b, o + m, none⟩ := by unfold Addr.add; split <;> simp_all
section
variable {H : Type} {enc : TypeId × Value → H} {P : Program} {w : World} {tab : Nat → List CT} {S : List Nat} {B : DataW H → Nat} {BA : List (DataW H) → Nat}
/-- What holds of readings with this fuel. -/
def ReadOK (enc : TypeId × Value → H) (P : Program) (w : World) (tab : Nat → List CT) (S : List Nat) (B : DataW H → Nat) (fuel : Nat) : Prop :=
  ∀ t cs d ps n ts, DataW.trod enc P w 0 (fun _ => true) true fuel t cs = some (d, ps) → flat P n t = some ts → (∀ e, CT.sl e ∈ ts → e ∈ S) → B d ≤ strMax →
    ∃ row, RdVals (fun k => k < w.heap.size) w row cs ∧ HtRow tab ts row ∧ nodesRow row + 1 ≤ 2 * B d ∧ (w.noneFrozen ps → RfVals w row cs)
theorem fields_ok (hB : BulkOK B BA) {fuel n : Nat} (ih : ReadOK enc P w tab S B fuel) (cs : List Value) : ∀ (fl : List Field) (xs : List (DataW H × List MemPlace)) (o : Nat) (ts : List CT), flatFs P (flat P n) o fl = some ts → xs.length = fl.length →
    (∀ (i : Nat) (f : Field), fl[i]? = some f → DataW.trod enc P w 0 (fun _ => true) true fuel f.type ((cs.drop f.offset).take (P.cellsOf f.type)) = xs[i]?) → (∀ e, CT.sl e ∈ ts → e ∈ S) → BA (xs.map (·.1)) ≤ strMax →
    ∃ row, RdVals (fun k => k < w.heap.size) w row ((cs.drop o).take ts.length) ∧ HtRow tab ts row ∧ nodesRow row ≤ 2 * BA (xs.map (·.1)) ∧ (w.noneFrozen (xs.flatMap (·.2)) → RfVals w row ((cs.drop o).take ts.length))
  | [], xs, o, ts, hf, hx, _, _, _ => by
    simp only [flatFs, Option.some.injEq] at hf
    subst hf
    exact ⟨[], by simp [RdVals], by simp [HtRow], by simp [nodesRow], fun _ => by simp [RfVals]⟩
  | f :: fl, [], o, ts, hf, hx, _, _, _ => by simp at hx
  | f :: fl, x :: xs, o, ts, hf, hx, hr, hs, hb => by
    simp only [flatFs] at hf
    split at hf
    · rename_i ho
      cases h1 : flat P n f.type with
      | none => rw [h1] at hf; cases hf
      | some t1 =>
        rw [h1] at hf
        simp only [Option.bind_some] at hf
        split at hf
        · rename_i hc
          cases h2 : flatFs P (flat P n) (o + t1.length) fl with
          | none => rw [h2] at hf; cases hf
          | some t2 =>
            rw [h2] at hf
            simp only [Option.map_some, Option.some.injEq] at hf
            subst hf
            have hx0 := hr 0 f rfl
            rw [ho, hc] at hx0
            simp only [List.getElem?_cons_zero] at hx0
            obtain ⟨d0, p0⟩ := x
            rw [List.map_cons, hB.c] at hb ⊢
            simp only at hb
            obtain ⟨r1, a1, a2, a3, a4⟩ := ih f.type _ d0 p0 n t1 hx0 h1 (fun e he => hs e (List.mem_append_left _ he)) (by omega)
            obtain ⟨r2, b1, b2, b3, b4⟩ := fields_ok hB ih cs fl xs (o + t1.length) t2 h2 (by simpa using hx) (fun i g hg => by simpa using hr (i + 1) g (by simpa using hg)) (fun e he => hs e (List.mem_append_right _ he)) (by omega)
            refine ⟨r1 ++ r2, ?_, HtRow.app _ _ _ _ a2 b2, by rw [nodesRow_app2]; simp only; omega, fun hz => ?_⟩
            · have := RdVals.app _ _ _ _ a1 b1
              rw [← List.drop_drop, ← List.take_add, ← List.length_append] at this
              exact this
            · have := RfVals.app _ _ _ _ (a4 fun b off hm => hz b off (by simp only [List.flatMap_cons, List.mem_append]; exact .inl hm)) (b4 fun b off hm => hz b off (by simp only [List.flatMap_cons, List.mem_append]; exact .inr hm))
              rw [← List.drop_drop, ← List.take_add, ← List.length_append] at this
              exact this
        · cases hf
    · cases hf
theorem rows_ok (hB : BulkOK B BA) (hT : TabOK P tab S) {fuel e : Nat} (he : e ∈ S) (ih : ReadOK enc P w tab S B fuel) (b o : Nat) : ∀ (l : List (DataW H × List MemPlace)) (k : Nat),
    (∀ (i : Nat) x, l[i]? = some x → (w.cells? 0 ((⟨b, o, none⟩ : Addr).add ((k + i) * P.cellsOf e)) (P.cellsOf e)).bind (DataW.trod enc P w 0 (fun _ => true) true fuel e) = some x) → BA (l.map (·.1)) ≤ strMax →
    ∃ rows, rows.length = l.length ∧ RdRows (fun k => k < w.heap.size) w b (tab e).length (o + k * (tab e).length) rows ∧ HtRows tab (tab e) rows ∧ nodesRows rows ≤ 2 * BA (l.map (·.1)) ∧ (w.noneFrozen (l.flatMap (·.2)) → (∀ j, k * (tab e).length ≤ j → j < (k + l.length) * (tab e).length → w.frozen? ⟨b, o + j, none⟩ = false) → RfRows w b (tab e).length (o + k * (tab e).length) rows)
  | [], k, _, _ => ⟨[], rfl, by simp [RdRows], by simp [HtRows], by simp [nodesRows], fun _ _ => by simp [RfRows]⟩
  | (d0, p0) :: l, k, hr, hb => by
    obtain ⟨⟨n, hfl⟩, hc, hpos, hcl⟩ := hT e he
    have h0 := hr 0 (d0, p0) rfl
    rw [List.map_cons, hB.c] at hb ⊢
    simp only at hb
    rw [Nat.add_zero, add_mk] at h0
    cases h1 : w.cells? 0 ⟨b, o + k * P.cellsOf e, none⟩ (P.cellsOf e) with
    | none => rw [h1] at h0; cases h0
    | some cs =>
      rw [h1] at h0
      simp only [Option.bind_some] at h0
      obtain ⟨_, hl, hcell⟩ := World.cells?_some h1
      obtain ⟨row, a1, a2, a3, a4⟩ := ih e cs d0 p0 n (tab e) h0 hfl hcl (by omega)
      obtain ⟨rows, b1, b2, b3, b4, b5⟩ := rows_ok hB hT he ih b o l (k + 1) (fun i x hx => by have := hr (i + 1) x (by simpa using hx); rwa [show k + (i + 1) = k + 1 + i from by omega] at this) (by omega)
      rw [hc] at hl hcell
      have hcl2 : ∀ j u, cs[j]? = some u → w.cell? ⟨b, o + k * (tab e).length + j, none⟩ = some u := fun j u hu => by
        have hj := (List.getElem?_eq_some_iff.1 hu).1
        have := hcell j (by omega)
        rw [add_mk, hu] at this
        exact this
      refine ⟨row :: rows, by simp [b1], ?_, by simp only [HtRows]; exact ⟨a2, b3⟩, by simp only [nodesRows]; omega, fun hz hf => ?_⟩
      · simp only [RdRows]
        exact ⟨⟨by rw [← RdVals.length _ _ a1]; exact hl, RdVals.row _ _ _ a1 hcl2⟩, by rw [Nat.add_mul, Nat.one_mul, ← Nat.add_assoc] at b2; exact b2⟩
      · simp only [RfRows]
        have hkl : (k + (l.length + 1)) * (tab e).length = k * (tab e).length + (tab e).length + l.length * (tab e).length := by rw [show k + (l.length + 1) = k + 1 + l.length from by omega, Nat.add_mul, Nat.add_mul, Nat.one_mul]
        have hkl2 : (k + 1 + l.length) * (tab e).length = k * (tab e).length + (tab e).length + l.length * (tab e).length := by rw [Nat.add_mul, Nat.add_mul, Nat.one_mul]
        refine ⟨RfVals.row2 _ _ _ (a4 fun b off hm => hz b off (by simp only [List.flatMap_cons, List.mem_append]; exact .inl hm)) hcl2 (fun j hj => ?_), ?_⟩
        · rw [Nat.add_assoc]
          exact hf _ (by omega) (by simp only [List.length_cons]; rw [hkl]; omega)
        · have := b5 (fun b off hm => hz b off (by simp only [List.flatMap_cons, List.mem_append]; exact .inr hm)) (fun j h1 h2 => hf j (by rw [Nat.add_mul, Nat.one_mul] at h1; omega) (by simp only [List.length_cons]; rw [hkl]; rw [hkl2] at h2; exact h2))
          rw [Nat.add_mul, Nat.one_mul, ← Nat.add_assoc] at this
          exact this
theorem read_ok (hB : BulkOK B BA) (hT : TabOK P tab S) : ∀ fuel, ReadOK enc P w tab S B fuel
  | 0 => fun t cs d ps n ts h => by simp [DataW.trod] at h
  | fuel + 1 => by
    intro t cs d ps n ts h hf hs hb
    have ih := read_ok hB hT fuel
    cases n with
    | zero => cases hf
    | succ n =>
      unfold flat at hf
      split at hf
      · rename_i k hu
        simp only [Option.some.injEq] at hf; subst hf
        obtain ⟨m, rfl, hx, hw⟩ := DataW.trod_int hu h
        simp only [Prod.mk.injEq] at hx; obtain ⟨rfl, rfl⟩ := hx
        have := hB.lit1 (.int k m)
        exact ⟨[.int k m], by simp [RdVals, Rd], by simp [HtRow, Ht, wrap_of_wf hw], by simp only [nodesRow, nodes]; omega, fun _ => by simp [RfVals, Rf]⟩
      · rename_i hu
        simp only [Option.some.injEq] at hf; subst hf
        obtain ⟨m, rfl, hx⟩ := DataW.trod_bool hu h
        simp only [Prod.mk.injEq] at hx; obtain ⟨rfl, rfl⟩ := hx
        have := hB.lit1 (.bool m)
        exact ⟨[.bool m], by simp [RdVals, Rd], by simp [HtRow, Ht], by simp only [nodesRow, nodes]; omega, fun _ => by simp [RfVals, Rf]⟩
      · rename_i hu
        simp only [Option.some.injEq] at hf; subst hf
        obtain ⟨s, rfl, hx, _⟩ := DataW.trod_string hu h
        simp only [Prod.mk.injEq] at hx; obtain ⟨rfl, rfl⟩ := hx
        have h1 := hB.str s.data.toList
        have h2 : s.data.toList.length = s.size := by rw [Array.length_toList]; rfl
        exact ⟨[.str s], by simp [RdVals, Rd], by simp only [HtRow, Ht, and_true]; exact ⟨trivial, by omega⟩, by simp only [nodesRow, nodes]; omega, fun _ => by simp [RfVals, Rf]⟩
      · rename_i e hu
        simp only [Option.some.injEq] at hf; subst hf
        have he : e ∈ S := hs e (by simp)
        obtain ⟨_, hc, hpos, _⟩ := hT e he
        rcases DataW.trod_slice hu h with ⟨rfl, hx⟩ | ⟨a, len, cap, elems, rest, m, hm, rfl, hx, _, hl, _, hlen, hel, hsp, _⟩
        · simp only [Prod.mk.injEq] at hx; obtain ⟨rfl, rfl⟩ := hx
          have := hB.nil
          refine ⟨[.sl (tab e).length 0 0 []], ?_, ?_, by simp only [nodesRow, nodes, nodesRows]; omega, fun _ => by simp [RfVals, Rf]⟩
          · simp only [RdVals, Rd, and_true]; exact ⟨none, rfl, by simp, by simp, .inl trivial⟩
          · simp only [HtRow, Ht, and_true]; exact ⟨e, rfl, rfl, by simp [HtRows]⟩
        · obtain rfl : m = fuel := by omega
          simp only [Prod.mk.injEq] at hx; obtain ⟨rfl, rfl⟩ := hx
          obtain ⟨hrl, hre⟩ := hsp rfl
          rw [hB.sl] at hb ⊢
          have hall : ∀ (i : Nat) x, (elems ++ rest)[i]? = some x → (w.cells? 0 (a.add (i * P.cellsOf e)) (P.cellsOf e)).bind (DataW.trod enc P w 0 (fun _ => true) true m e) = some x := by
            intro i x hx
            by_cases hi : i < len
            · rw [List.getElem?_append_left (by omega)] at hx; rw [hel i hi]; exact hx
            · rw [List.getElem?_append_right (by omega), hlen] at hx
              have hj := (List.getElem?_eq_some_iff.1 hx).1
              have := hre (i - len) (by omega)
              rw [show len + (i - len) = i from by omega] at this
              rw [this]; exact hx
          have hba : BA ((elems ++ rest).map (·.1)) = BA (elems.map (·.1)) + BA (rest.map (·.1)) := by rw [List.map_append, hB.app]
          by_cases hz : cap = 0
          · subst hz
            have hl0 : len = 0 := by omega
            subst hl0
            refine ⟨[.sl (tab e).length 0 0 []], ?_, ?_, by simp only [nodesRow, nodes, nodesRows]; omega, fun _ => by simp [RfVals, Rf]⟩
            · simp only [RdVals, Rd, and_true]; exact ⟨some a, rfl, by simp, by simp, .inl trivial⟩
            · simp only [HtRow, Ht, and_true]; exact ⟨e, rfl, rfl, by simp [HtRows]⟩
          · have hne : 0 < (elems ++ rest).length := by rw [List.length_append]; omega
            have h0 := hall 0 _ (List.getElem?_eq_getElem hne)
            rw [Nat.zero_mul] at h0
            cases h1 : w.cells? 0 (a.add 0) (P.cellsOf e) with
            | none => rw [h1] at h0; cases h0
            | some cs0 =>
              have hblk := World.cells?_block h1 (by omega)
              obtain ⟨_, hl0, hcell⟩ := World.cells?_some h1
              obtain ⟨b, o, spot⟩ := a
              have g0 := hcell 0 (by omega)
              have hc0 : cs0[0]? = some (cs0[0]'(by omega)) := List.getElem?_eq_getElem _
              rw [hc0] at g0
              have hspot : spot = none := by simpa [Addr.add] using World.cell?_spot g0
              subst hspot
              rw [add_mk] at hblk
              obtain ⟨rows, b1, b2, b3, b4, b5⟩ := rows_ok hB hT he ih b o (elems ++ rest) 0 (fun i x hx => by rw [Nat.zero_add]; exact hall i x hx) (by omega)
              rw [List.length_append] at b1
              refine ⟨[.sl (tab e).length len cap rows], ?_, ?_, by simp only [nodesRow, nodes]; omega, fun hz => ?_⟩
              · simp only [RdVals, Rd, and_true]
                exact ⟨_, rfl, by omega, by omega, .inr ⟨b, o, rfl, hblk, by rw [Nat.zero_mul, Nat.add_zero] at b2; exact b2⟩⟩
              · simp only [HtRow, Ht, and_true]; exact ⟨e, rfl, rfl, b3⟩
              · simp only [RfVals, Rf, and_true]
                refine .inr ⟨len, cap, b, o, rfl, ?_⟩
                have := b5 (fun b off hm => hz b off (by simp only [List.mem_append]; exact .inr hm)) (fun j _ h2 => hz b (o + j) (by
                  simp only [List.mem_append]
                  refine .inl (List.mem_map.2 ⟨j, List.mem_range.2 ?_, rfl⟩)
                  rw [List.length_append, Nat.zero_add] at h2
                  rw [hc]; exact h2))
                rw [Nat.zero_mul, Nat.add_zero] at this
                exact this
      · rename_i fs hu
        obtain ⟨xs, m, hm, hx, hcl, hxl, hfd⟩ := DataW.trod_struct hu h
        obtain rfl : m = fuel := by omega
        simp only [Prod.mk.injEq] at hx; obtain ⟨rfl, rfl⟩ := hx
        cases h1 : flatFs P (flat P n) 0 fs.toList with
        | none => rw [h1] at hf; cases hf
        | some ts1 =>
          rw [h1] at hf
          simp only [Option.bind_some] at hf
          split at hf
          · rename_i hct
            simp only [Option.some.injEq] at hf; subst hf
            rw [hB.agg] at hb ⊢
            obtain ⟨row, a1, a2, a3, a4⟩ := fields_ok hB ih cs fs.toList xs 0 ts1 h1 (by simpa using hxl) (fun i f hi => hfd i f (by simpa using hi)) hs (by omega)
            rw [List.drop_zero, List.take_of_length_le (by omega)] at a1 a4
            exact ⟨row, a1, a2, by omega, a4⟩
          · cases hf
      · cases hf
end
/-! ### an argument reads behind the call as it did: of types in a closed list -/
def kidB (P : Program) (L : List Nat) (t : TypeId) : Bool := match P.underlying t with
  | some (.pointer _) => false
  | some (.array _ _) => false
  | some (.map _ _) => false
  | some (.slice e) => L.contains e && decide (0 < P.cellsOf e)
  | some (.struct fs) => (fs.toList.all fun f => L.contains f.type) && decide (P.cellsOf t = (fs.toList.map fun f => P.cellsOf f.type).sum) && (List.range fs.toList.length).all fun j => match fs.toList[j]? with
    | some f => decide (f.offset = ((fs.toList.take j).map fun f => P.cellsOf f.type).sum)
    | none => true
  | _ => true
def kidsB (P : Program) (L : List Nat) : Bool := L.all (kidB P L)
theorem kids_of {P : Program} {L : List Nat} (h : kidsB P L = true) : Kids P (· ∈ L) ∧ ∀ t e, t ∈ L → P.underlying t = some (.slice e) → 0 < P.cellsOf e := by
  have key : ∀ t, t ∈ L → kidB P L t = true := fun t ht => List.all_eq_true.1 h t ht
  refine ⟨⟨fun {t e} ht hu => ?_, fun {t e} ht hu => ?_, fun {t e n} ht hu => ?_, fun {t fs} ht hu => ?_, fun {t k e} ht hu => ?_⟩, fun t e ht hu => ?_⟩
  · have := key t ht; simp only [kidB, hu] at this; cases this
  · have := key t ht; simp only [kidB, hu, Bool.and_eq_true, List.contains_iff_mem] at this; exact this.1
  · have := key t ht; simp only [kidB, hu] at this; cases this
  · have := key t ht
    simp only [kidB, hu, Bool.and_eq_true, decide_eq_true_eq] at this
    refine ⟨fun f hf => ?_, this.1.2, fun j f hj => ?_⟩
    · have := List.all_eq_true.1 this.1.1 f hf
      simpa only [List.contains_iff_mem] using this
    · have hlt := (List.getElem?_eq_some_iff.1 hj).1
      have := List.all_eq_true.1 this.2 j (List.mem_range.2 hlt)
      rw [hj] at this
      simpa using this
  · have := key t ht; simp only [kidB, hu] at this; cases this
  · have := key t ht; simp only [kidB, hu, Bool.and_eq_true, decide_eq_true_eq] at this; exact this.2
theorem trod_kept {H : Type} {enc : TypeId × Value → H} {P : Program} {L : List Nat} {t : TypeId} (hk : kidsB P L = true) (ht : t ∈ L) {W W' : World} {v : Value} {d : DataW H} {ps : List MemPlace}
    (h : DataW.Trod enc P W 0 (fun _ => true) true t v d ps) (hb : Below W.heap.size W W') (hlt : ∀ x ∈ ps, x.block < W.heap.size) : DataW.Trod enc P W' 0 (fun b => decide (b < W.heap.size)) true t v d ps := by
  obtain ⟨n, hn⟩ := h
  obtain ⟨K, hz⟩ := kids_of hk
  exact ⟨n, DataW.trod_carry n _ _ _ (DataW.trod_respare K hz n _ _ _ ht hn (fun p hp => by simpa using hlt p hp)) (fun p hp => hb.same (hlt p hp))⟩
end Go.Vt
