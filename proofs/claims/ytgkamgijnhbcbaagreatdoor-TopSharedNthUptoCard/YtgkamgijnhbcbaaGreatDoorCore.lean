/- Data as the memory of the model holds them: what a value reads as, its shape, its size. -/
import Derived.Below
import Derived.Deep.Draws
import Derived.Lib.Hide
namespace Go.Vt
open Go.RowKit

def strMax : Nat := 4398046511104
/-- A datum: what a value reads as, through memory. 'rows': the places that are known (len ≤ rows.length ≤ cap). -/
inductive C where
  | int (k : IntKind) (n : Int)
  | bool (b : Bool)
  | str (s : ByteArray)
  | sl (sz len cap : Nat) (rows : List (List C))

mutual
def Rd (F : Nat → Prop) (w : World) : C → Value → Prop
  | .int k n, v => v = .int k n
  | .bool b, v => v = .bool b
  | .str s, v => v = .string s
  | .sl sz len cap rows, v => ∃ a, v = .slice a len cap ∧ len ≤ rows.length ∧ rows.length ≤ cap ∧ (rows = [] ∨ ∃ b o, a = some ⟨b, o, none⟩ ∧ F b ∧ RdRows F w b sz o rows)
def RdRows (F : Nat → Prop) (w : World) (b sz : Nat) : Nat → List (List C) → Prop
  | _, [] => True
  | o, r :: rs => (r.length = sz ∧ RdRow F w b o r) ∧ RdRows F w b sz (o + sz) rs
def RdRow (F : Nat → Prop) (w : World) (b : Nat) : Nat → List C → Prop
  | _, [] => True
  | o, c :: cs => (∃ v, w.cell? ⟨b, o, none⟩ = some v ∧ Rd F w c v) ∧ RdRow F w b (o + 1) cs
end

/-- The cells of a value that is no place: one after the other. -/
def RdVals (F : Nat → Prop) (w : World) : List C → List Value → Prop
  | [], [] => True
  | c :: cs, v :: vs => Rd F w c v ∧ RdVals F w cs vs
  | _, _ => False

mutual
theorem Rd.mono {F F' : Nat → Prop} {w w' : World} (h : ∀ b, F b → F' b ∧ w'.heap[b]? = w.heap[b]?) : ∀ (c : C) (v : Value), Rd F w c v → Rd F' w' c v
  | .int .., _, hr => by simpa [Rd] using hr
  | .bool .., _, hr => by simpa [Rd] using hr
  | .str .., _, hr => by simpa [Rd] using hr
  | .sl sz len cap rows, v, hr => by
    simp only [Rd] at hr ⊢
    obtain ⟨a, h1, h2, h3, h4⟩ := hr
    refine ⟨a, h1, h2, h3, ?_⟩
    rcases h4 with h4 | ⟨b, o, e, hF, h4⟩
    · exact .inl h4
    · exact .inr ⟨b, o, e, (h b hF).1, Rd.monoRows h b sz (h b hF).2 rows o h4⟩
theorem Rd.monoRows {F F' : Nat → Prop} {w w' : World} (h : ∀ b, F b → F' b ∧ w'.heap[b]? = w.heap[b]?) (b sz : Nat) (hb : w'.heap[b]? = w.heap[b]?) : ∀ (rs : List (List C)) (o : Nat), RdRows F w b sz o rs → RdRows F' w' b sz o rs
  | [], _, _ => by simp [RdRows]
  | r :: rs, o, hr => by
    simp only [RdRows] at hr ⊢
    exact ⟨⟨hr.1.1, Rd.monoRow h b hb r o hr.1.2⟩, Rd.monoRows h b sz hb rs (o + sz) hr.2⟩
theorem Rd.monoRow {F F' : Nat → Prop} {w w' : World} (h : ∀ b, F b → F' b ∧ w'.heap[b]? = w.heap[b]?) (b : Nat) (hb : w'.heap[b]? = w.heap[b]?) : ∀ (cs : List C) (o : Nat), RdRow F w b o cs → RdRow F' w' b o cs
  | [], _, _ => by simp [RdRow]
  | c :: cs, o, hr => by
    simp only [RdRow] at hr ⊢
    obtain ⟨⟨v, h1, h2⟩, h3⟩ := hr
    refine ⟨⟨v, ?_, Rd.mono h c v h2⟩, Rd.monoRow h b hb cs (o + 1) h3⟩
    rw [World.cell?_of_block (w := w) (a := ⟨b, o, none⟩) hb]; exact h1
end
theorem RdVals.mono {F F' : Nat → Prop} {w w' : World} (h : ∀ b, F b → F' b ∧ w'.heap[b]? = w.heap[b]?) : ∀ (cs : List C) (vs : List Value), RdVals F w cs vs → RdVals F' w' cs vs
  | [], [], _ => trivial
  | c :: cs, v :: vs, hr => ⟨Rd.mono h c v hr.1, RdVals.mono h cs vs hr.2⟩
  | [], _ :: _, hr => hr.elim
  | _ :: _, [], hr => hr.elim

/-! ### marks: the same shape, and good scalars -/
mutual
def Mk : C → C → Prop
  | .int k n, c => c = .int k n ∨ ∃ m, c = .int k m ∧ k.wrap m = m
  | .bool _, c => ∃ m, c = .bool m
  | .str s, c => c = .str s ∨ ∃ m, c = .str m ∧ m.size ≤ strMax
  | .sl sz len cap rows, c => ∃ rows', c = .sl sz len cap rows' ∧ MkRows rows rows'
def MkRows : List (List C) → List (List C) → Prop
  | [], rs' => rs' = []
  | r :: rs, rs' => ∃ r' t', rs' = r' :: t' ∧ MkRow r r' ∧ MkRows rs t'
def MkRow : List C → List C → Prop
  | [], cs' => cs' = []
  | c :: cs, cs' => ∃ c' t', cs' = c' :: t' ∧ Mk c c' ∧ MkRow cs t'
end
mutual
theorem Mk.refl : ∀ c : C, Mk c c
  | .int .. => by simp [Mk]
  | .bool .. => by simp [Mk]
  | .str .. => by simp [Mk]
  | .sl _ _ _ rows => by simp only [Mk]; exact ⟨rows, rfl, MkRows.refl rows⟩
theorem MkRows.refl : ∀ rs : List (List C), MkRows rs rs
  | [] => by simp [MkRows]
  | r :: rs => by simp only [MkRows]; exact ⟨r, rs, rfl, MkRow.refl r, MkRows.refl rs⟩
theorem MkRow.refl : ∀ cs : List C, MkRow cs cs
  | [] => by simp [MkRow]
  | c :: cs => by simp only [MkRow]; exact ⟨c, cs, rfl, Mk.refl c, MkRow.refl cs⟩
end
mutual
theorem Mk.trans : ∀ (a b c : C), Mk a b → Mk b c → Mk a c
  | .int k n, b, c, h, h' => by
    simp only [Mk] at h
    rcases h with rfl | ⟨m, rfl, hm⟩ <;> simp only [Mk] at h' ⊢ <;> rcases h' with h' | h'
    · exact .inl h'
    · exact .inr h'
    · exact .inr ⟨m, h', hm⟩
    · exact .inr h'
  | .bool _, b, c, h, h' => by simp only [Mk] at h; obtain ⟨m, rfl⟩ := h; simpa only [Mk] using h'
  | .str _, b, c, h, h' => by
    simp only [Mk] at h
    rcases h with rfl | ⟨m, rfl, hm⟩ <;> simp only [Mk] at h' ⊢ <;> rcases h' with h' | h'
    · exact .inl h'
    · exact .inr h'
    · exact .inr ⟨m, h', hm⟩
    · exact .inr h'
  | .sl _ _ _ rows, b, c, h, h' => by
    simp only [Mk] at h; obtain ⟨r1, rfl, h1⟩ := h
    simp only [Mk] at h' ⊢; obtain ⟨r2, rfl, h2⟩ := h'
    exact ⟨r2, rfl, MkRows.trans rows r1 r2 h1 h2⟩
theorem MkRows.trans : ∀ (a b c : List (List C)), MkRows a b → MkRows b c → MkRows a c
  | [], b, c, h, h' => by simp only [MkRows] at h; subst h; exact h'
  | r :: rs, b, c, h, h' => by
    simp only [MkRows] at h; obtain ⟨r1, t1, rfl, h1, h2⟩ := h
    simp only [MkRows] at h' ⊢; obtain ⟨r2, t2, rfl, k1, k2⟩ := h'
    exact ⟨r2, t2, rfl, MkRow.trans r r1 r2 h1 k1, MkRows.trans rs t1 t2 h2 k2⟩
theorem MkRow.trans : ∀ (a b c : List C), MkRow a b → MkRow b c → MkRow a c
  | [], b, c, h, h' => by simp only [MkRow] at h; subst h; exact h'
  | r :: rs, b, c, h, h' => by
    simp only [MkRow] at h; obtain ⟨r1, t1, rfl, h1, h2⟩ := h
    simp only [MkRow] at h' ⊢; obtain ⟨r2, t2, rfl, k1, k2⟩ := h'
    exact ⟨r2, t2, rfl, Mk.trans r r1 r2 h1 k1, MkRow.trans rs t1 t2 h2 k2⟩
end
theorem MkRows.length : ∀ (a b : List (List C)), MkRows a b → b.length = a.length
  | [], b, h => by simp only [MkRows] at h; subst h; rfl
  | r :: rs, b, h => by simp only [MkRows] at h; obtain ⟨r1, t1, rfl, h1, h2⟩ := h; simp [MkRows.length rs t1 h2]
theorem MkRow.length : ∀ (a b : List C), MkRow a b → b.length = a.length
  | [], b, h => by simp only [MkRow] at h; subst h; rfl
  | r :: rs, b, h => by simp only [MkRow] at h; obtain ⟨r1, t1, rfl, h1, h2⟩ := h; simp [MkRow.length rs t1 h2]

/-- The value of a cell, or what a mark may lay in its place. -/
def like (a v : Value) : Prop := v = a ∨ match a with
  | .int k _ => ∃ n, v = .int k n ∧ k.wrap n = n
  | .bool _ => ∃ b, v = .bool b
  | .string _ => ∃ s, v = .string s ∧ s.size ≤ strMax
  | _ => False
theorem like.refl (v : Value) : like v v := .inl rfl
theorem like.trans {a b c : Value} (h : like a b) (h' : like b c) : like a c := by
  rcases h with rfl | h
  · exact h'
  · rcases h' with rfl | h'
    · exact .inr h
    · right
      cases a <;> simp only at h
      · obtain ⟨m, rfl⟩ := h; simpa using h'
      · obtain ⟨m, rfl, _⟩ := h; simpa using h'
      · obtain ⟨m, rfl, _⟩ := h; simpa using h'

/-- Block b holds scalars of the kinds that it held, and all else as it was. -/
def Scal (w w' : World) (b : Nat) : Prop :=
  ∃ c c' e, w.heap[b]? = some (.cells c e (0, 0)) ∧ w'.heap[b]? = some (.cells c' e (0, 0)) ∧ c'.size = c.size ∧ ∀ (i : Nat) (x : Value), c[i]? = some x → ∃ y, c'[i]? = some y ∧ like x y
theorem Scal.refl {w : World} {b : Nat} (h : ∃ c e, w.heap[b]? = some (.cells c e (0, 0))) : Scal w w b := by
  obtain ⟨c, e, h⟩ := h
  exact ⟨c, c, e, h, h, rfl, fun i x hx => ⟨x, hx, like.refl x⟩⟩
theorem Scal.of_same {w w' : World} {b : Nat} (h : ∃ c e, w.heap[b]? = some (.cells c e (0, 0))) (hs : w'.heap[b]? = w.heap[b]?) : Scal w w' b := by
  obtain ⟨c, e, h⟩ := h
  exact ⟨c, c, e, h, hs.trans h, rfl, fun i x hx => ⟨x, hx, like.refl x⟩⟩
theorem Scal.trans {w w' w'' : World} {b : Nat} (h : Scal w w' b) (h' : Scal w' w'' b) : Scal w w'' b := by
  obtain ⟨c, c', e, h1, h2, h3, h4⟩ := h
  obtain ⟨d, d', f, k1, k2, k3, k4⟩ := h'
  rw [h2] at k1
  injection k1 with k1
  injection k1 with k1 k5 k6
  subst k1 k5
  refine ⟨c, d', e, h1, k2, k3.trans h3, fun i x hx => ?_⟩
  obtain ⟨y, hy, hl⟩ := h4 i x hx
  obtain ⟨z, hz, hl'⟩ := k4 i y hy
  exact ⟨z, hz, hl.trans hl'⟩
theorem Scal.cell {w w' : World} {b : Nat} (h : Scal w w' b) {o : Nat} {x : Value} (hx : w.cell? ⟨b, o, none⟩ = some x) : ∃ y, w'.cell? ⟨b, o, none⟩ = some y ∧ like x y := by
  obtain ⟨c, c', e, h1, h2, h3, h4⟩ := h
  simp only [World.cell?, h1, h2] at hx ⊢
  simpa using h4 o x (by simpa using hx)
theorem Scal.blk {w w' : World} {b : Nat} (h : Scal w w' b) : ∃ c e, w'.heap[b]? = some (.cells c e (0, 0)) := by
  obtain ⟨c, c', e, h1, h2, _⟩ := h; exact ⟨c', e, h2⟩
/-- A mark is laid into a cell. -/
theorem Scal.set {w : World} {b o : Nat} {x u : Value} (hb : ∃ c e, w.heap[b]? = some (.cells c e (0, 0))) (hx : w.cell? ⟨b, o, none⟩ = some x) (hl : like x u) : Scal w (w.setCell ⟨b, o, none⟩ u) b := by
  obtain ⟨c, e, hb⟩ := hb
  have hxo : c[o]? = some x := by simpa [World.cell?, hb] using hx
  refine ⟨c, c.setIfInBounds o u, e, hb, by simp [World.setCell, Array.getElem?_modify, hb], by simp, fun i y hy => ?_⟩
  by_cases hio : o = i
  · subst hio
    rw [hxo] at hy; injection hy with hy; subst hy
    exact ⟨u, by simp [(Array.getElem?_eq_some_iff.1 hxo).1], hl⟩
  · exact ⟨y, by rw [Array.getElem?_setIfInBounds_ne hio]; exact hy, like.refl y⟩

/-- What a mark may do to the blocks of F, where 'mk'; else they stay. -/
def Chg (mk : Bool) (F : Nat → Prop) (w w' : World) : Prop := ∀ b, F b → if mk = true then Scal w w' b else w'.heap[b]? = w.heap[b]?

mutual
theorem Rd.chg {F : Nat → Prop} {w w' : World} (h : ∀ b, F b → Scal w w' b) : ∀ (c : C) (v v' : Value), like v v' → Rd F w c v → ∃ c', Mk c c' ∧ Rd F w' c' v'
  | .int k n, v, v', hl, hr => by
    simp only [Rd] at hr; subst hr
    rcases hl with rfl | ⟨m, rfl, hm⟩
    · exact ⟨.int k n, Mk.refl _, by simp [Rd]⟩
    · exact ⟨.int k m, by simp only [Mk]; exact .inr ⟨m, rfl, hm⟩, by simp [Rd]⟩
  | .bool b, v, v', hl, hr => by
    simp only [Rd] at hr; subst hr
    rcases hl with rfl | ⟨m, rfl⟩
    · exact ⟨.bool b, Mk.refl _, by simp [Rd]⟩
    · exact ⟨.bool m, by simp [Mk], by simp [Rd]⟩
  | .str s, v, v', hl, hr => by
    simp only [Rd] at hr; subst hr
    rcases hl with rfl | ⟨m, rfl, hm⟩
    · exact ⟨.str s, Mk.refl _, by simp [Rd]⟩
    · exact ⟨.str m, by simp only [Mk]; exact .inr ⟨m, rfl, hm⟩, by simp [Rd]⟩
  | .sl sz len cap rows, v, v', hl, hr => by
    simp only [Rd] at hr
    obtain ⟨a, rfl, h2, h3, h4⟩ := hr
    rcases hl with rfl | hl
    · rcases h4 with rfl | ⟨b, o, e, hF, h4⟩
      · exact ⟨.sl sz len cap [], Mk.refl _, by simp only [Rd]; exact ⟨a, rfl, h2, h3, .inl (by simp)⟩⟩
      · obtain ⟨rows', h5, h6, h7⟩ := Rd.chgRows h b sz hF rows o h4
        exact ⟨.sl sz len cap rows', by simp only [Mk]; exact ⟨rows', rfl, h5⟩, by simp only [Rd]; exact ⟨a, rfl, by omega, by omega, .inr ⟨b, o, e, hF, h7⟩⟩⟩
    · exact hl.elim
theorem Rd.chgRows {F : Nat → Prop} {w w' : World} (h : ∀ b, F b → Scal w w' b) (b sz : Nat) (hF : F b) : ∀ (rs : List (List C)) (o : Nat), RdRows F w b sz o rs → ∃ rs', MkRows rs rs' ∧ rs'.length = rs.length ∧ RdRows F w' b sz o rs'
  | [], _, _ => ⟨[], by simp [MkRows], rfl, by simp [RdRows]⟩
  | r :: rs, o, hr => by
    simp only [RdRows] at hr
    obtain ⟨r', h1, h2, h3⟩ := Rd.chgRow h b hF r o hr.1.2
    obtain ⟨rs', k1, k2, k3⟩ := Rd.chgRows h b sz hF rs (o + sz) hr.2
    exact ⟨r' :: rs', by simp only [MkRows]; exact ⟨r', rs', rfl, h1, k1⟩, by simp [k2], by simp only [RdRows]; exact ⟨⟨h2.trans hr.1.1, h3⟩, k3⟩⟩
theorem Rd.chgRow {F : Nat → Prop} {w w' : World} (h : ∀ b, F b → Scal w w' b) (b : Nat) (hF : F b) : ∀ (cs : List C) (o : Nat), RdRow F w b o cs → ∃ cs', MkRow cs cs' ∧ cs'.length = cs.length ∧ RdRow F w' b o cs'
  | [], _, _ => ⟨[], by simp [MkRow], rfl, by simp [RdRow]⟩
  | c :: cs, o, hr => by
    simp only [RdRow] at hr
    obtain ⟨⟨v, h1, h2⟩, h3⟩ := hr
    obtain ⟨y, hy, hl⟩ := (h b hF).cell h1
    obtain ⟨c', g1, g2⟩ := Rd.chg h c v y hl h2
    obtain ⟨cs', k1, k2, k3⟩ := Rd.chgRow h b hF cs (o + 1) h3
    exact ⟨c' :: cs', by simp only [MkRow]; exact ⟨c', cs', rfl, g1, k1⟩, by simp [k2], by simp only [RdRow]; exact ⟨⟨y, hy, g2⟩, k3⟩⟩
end
/-- Behind a change that 'mk' lets: the place reads as before, or as a marked datum. -/
theorem Rd.chgMk {mk : Bool} {F : Nat → Prop} {w w' : World} (h : Chg mk F w w') {b o : Nat} {cs : List C} (hF : F b) (hr : RdRow F w b o cs) : ∃ cs', MkRow cs cs' ∧ (mk = false → cs' = cs) ∧ RdRow F w' b o cs' := by
  cases mk with
  | true =>
    obtain ⟨cs', h1, _, h3⟩ := Rd.chgRow (fun b hb => by have := h b hb; simpa using this) b hF cs o hr
    exact ⟨cs', h1, by simp, h3⟩
  | false => exact ⟨cs, MkRow.refl cs, fun _ => rfl, Rd.monoRow (fun b hb => ⟨hb, by have := h b hb; simpa using this⟩) b (by have := h b hF; simpa using this) cs o hr⟩
theorem Rd.chgMkRows {mk : Bool} {F : Nat → Prop} {w w' : World} (h : Chg mk F w w') {b o sz : Nat} {rs : List (List C)} (hF : F b) (hr : RdRows F w b sz o rs) : ∃ rs', MkRows rs rs' ∧ (mk = false → rs' = rs) ∧ RdRows F w' b sz o rs' := by
  cases mk with
  | true =>
    obtain ⟨cs', h1, _, h3⟩ := Rd.chgRows (fun b hb => by have := h b hb; simpa using this) b sz hF rs o hr
    exact ⟨cs', h1, by simp, h3⟩
  | false => exact ⟨rs, MkRows.refl rs, fun _ => rfl, Rd.monoRows (fun b hb => ⟨hb, by have := h b hb; simpa using this⟩) b sz (by have := h b hF; simpa using this) rs o hr⟩

/-! ### sizes -/
mutual
def nodes : C → Nat
  | .int .. | .bool .. | .str .. => 1
  | .sl _ _ _ rows => 1 + nodesRows rows
def nodesRows : List (List C) → Nat
  | [] => 0
  | r :: rs => 1 + nodesRow r + nodesRows rs
def nodesRow : List C → Nat
  | [] => 0
  | c :: cs => nodes c + nodesRow cs
end
mutual
theorem Mk.nodes : ∀ (a b : C), Mk a b → nodes b = nodes a
  | .int .., b, h => by simp only [Mk] at h; rcases h with rfl | ⟨m, rfl, _⟩ <;> simp [Go.Vt.nodes]
  | .bool .., b, h => by simp only [Mk] at h; obtain ⟨m, rfl⟩ := h; simp [Go.Vt.nodes]
  | .str .., b, h => by simp only [Mk] at h; rcases h with rfl | ⟨m, rfl, _⟩ <;> simp [Go.Vt.nodes]
  | .sl _ _ _ rows, b, h => by
    simp only [Mk] at h; obtain ⟨r1, rfl, h1⟩ := h
    simp only [Go.Vt.nodes]; rw [MkRows.nodes rows _ h1]
theorem MkRows.nodes : ∀ (a b : List (List C)), MkRows a b → nodesRows b = nodesRows a
  | [], b, h => by simp only [MkRows] at h; subst h; rfl
  | r :: rs, b, h => by
    simp only [MkRows] at h; obtain ⟨r1, t1, rfl, h1, h2⟩ := h
    simp only [nodesRows]; rw [MkRow.nodes r _ h1, MkRows.nodes rs _ h2]
theorem MkRow.nodes : ∀ (a b : List C), MkRow a b → nodesRow b = nodesRow a
  | [], b, h => by simp only [MkRow] at h; subst h; rfl
  | r :: rs, b, h => by
    simp only [MkRow] at h; obtain ⟨r1, t1, rfl, h1, h2⟩ := h
    simp only [nodesRow]; rw [Mk.nodes r _ h1, MkRow.nodes rs _ h2]
end
theorem nodesRows_len : ∀ rs : List (List C), rs.length ≤ nodesRows rs
  | [] => by simp [nodesRows]
  | r :: rs => by simp only [nodesRows, List.length_cons]; have := nodesRows_len rs; omega
theorem nodes_pos (c : C) : 1 ≤ nodes c := by cases c <;> simp [nodes] <;> omega
theorem nodesRow_app : ∀ (a b : List C), nodesRow (a ++ b) = nodesRow a + nodesRow b
  | [], b => by simp [nodesRow]
  | c :: cs, b => by simp only [List.cons_append, nodesRow, nodesRow_app cs b]; omega

/-! ### types -/
/-- A cell's type: a slice's is the number of its element's type. -/
inductive CT where
  | int (k : IntKind)
  | bool
  | str
  | sl (e : TypeId)
mutual
def Ht (tab : Nat → List CT) : CT → C → Prop
  | t, .int k n => t = .int k ∧ k.wrap n = n
  | t, .bool _ => t = .bool
  | t, .str s => t = .str ∧ s.size ≤ strMax
  | t, .sl sz _ _ rows => ∃ e, t = .sl e ∧ sz = (tab e).length ∧ HtRows tab (tab e) rows
def HtRows (tab : Nat → List CT) (ts : List CT) : List (List C) → Prop
  | [] => True
  | r :: rs => HtRow tab ts r ∧ HtRows tab ts rs
def HtRow (tab : Nat → List CT) : List CT → List C → Prop
  | [], [] => True
  | t :: ts, c :: cs => Ht tab t c ∧ HtRow tab ts cs
  | _, _ => False
end

mutual
theorem Mk.ht {tab : Nat → List CT} : ∀ (t : CT) (a b : C), Mk a b → Ht tab t a → Ht tab t b
  | t, .int .., b, h, hh => by
    simp only [Mk] at h; rcases h with rfl | ⟨m, rfl, hm⟩
    · exact hh
    · simp only [Ht] at hh ⊢; exact ⟨hh.1, hm⟩
  | t, .bool .., b, h, hh => by simp only [Mk] at h; obtain ⟨m, rfl⟩ := h; simpa only [Ht] using hh
  | t, .str .., b, h, hh => by
    simp only [Mk] at h; rcases h with rfl | ⟨m, rfl, hm⟩
    · exact hh
    · simp only [Ht] at hh ⊢; exact ⟨hh.1, hm⟩
  | t, .sl _ _ _ rows, b, h, hh => by
    simp only [Mk] at h; obtain ⟨r1, rfl, h1⟩ := h
    simp only [Ht] at hh ⊢; obtain ⟨e, h2, h3, h4⟩ := hh
    exact ⟨e, h2, h3, MkRows.ht (tab e) rows r1 h1 h4⟩
theorem MkRows.ht {tab : Nat → List CT} : ∀ (ts : List CT) (a b : List (List C)), MkRows a b → HtRows tab ts a → HtRows tab ts b
  | ts, [], b, h, hh => by simp only [MkRows] at h; subst h; exact hh
  | ts, r :: rs, b, h, hh => by
    simp only [MkRows] at h; obtain ⟨r1, t1, rfl, h1, h2⟩ := h
    simp only [HtRows] at hh ⊢; exact ⟨MkRow.ht ts r r1 h1 hh.1, MkRows.ht ts rs t1 h2 hh.2⟩
theorem MkRow.ht {tab : Nat → List CT} : ∀ (ts : List CT) (a b : List C), MkRow a b → HtRow tab ts a → HtRow tab ts b
  | ts, [], b, h, hh => by simp only [MkRow] at h; subst h; exact hh
  | ts, r :: rs, b, h, hh => by
    simp only [MkRow] at h; obtain ⟨r1, t1, rfl, h1, h2⟩ := h
    cases ts with
    | nil => simp [HtRow] at hh
    | cons t ts => simp only [HtRow] at hh ⊢; exact ⟨Mk.ht t r r1 h1 hh.1, MkRow.ht ts rs t1 h2 hh.2⟩
end
theorem HtRow.length {tab : Nat → List CT} : ∀ (ts : List CT) (cs : List C), HtRow tab ts cs → cs.length = ts.length
  | [], [], _ => rfl
  | t :: ts, c :: cs, h => by simp only [HtRow] at h; simp [HtRow.length ts cs h.2]
  | [], _ :: _, h => by simp [HtRow] at h
  | _ :: _, [], h => by simp [HtRow] at h

/-! ### what an eye sees -/
mutual
def obsN (rm : Bool) : C → List Int
  | .int _ n => [IntKind.i64.wrap n]
  | .bool b => [if b = true then 1 else 0]
  | .str _ => []
  | .sl _ len _ rows => (len : Int) :: obsNRows rm (if rm = true then rows.length else len) rows
def obsNRows (rm : Bool) : Nat → List (List C) → List Int
  | 0, _ => []
  | _, [] => []
  | n + 1, r :: rs => obsNRow rm r ++ obsNRows rm n rs
def obsNRow (rm : Bool) : List C → List Int
  | [] => []
  | c :: cs => obsN rm c ++ obsNRow rm cs
end
mutual
def obsS (rm : Bool) : C → List ByteArray
  | .int _ _ => []
  | .bool _ => []
  | .str s => [s]
  | .sl _ len _ rows => obsSRows rm (if rm = true then rows.length else len) rows
def obsSRows (rm : Bool) : Nat → List (List C) → List ByteArray
  | 0, _ => []
  | _, [] => []
  | n + 1, r :: rs => obsSRow rm r ++ obsSRows rm n rs
def obsSRow (rm : Bool) : List C → List ByteArray
  | [] => []
  | c :: cs => obsS rm c ++ obsSRow rm cs
end
-- All places of all slices are known.
mutual
def Roomy : C → Prop
  | .sl _ _ cap rows => rows.length = cap ∧ RoomyRows rows
  | _ => True
def RoomyRows : List (List C) → Prop
  | [] => True
  | r :: rs => RoomyRow r ∧ RoomyRows rs
def RoomyRow : List C → Prop
  | [] => True
  | c :: cs => Roomy c ∧ RoomyRow cs
end
mutual
theorem Mk.roomy : ∀ (a b : C), Mk a b → Roomy a → Roomy b
  | .int .., b, h, _ => by simp only [Mk] at h; rcases h with rfl | ⟨m, rfl, _⟩ <;> simp [Roomy]
  | .bool .., b, h, _ => by simp only [Mk] at h; obtain ⟨m, rfl⟩ := h; simp [Roomy]
  | .str .., b, h, _ => by simp only [Mk] at h; rcases h with rfl | ⟨m, rfl, _⟩ <;> simp [Roomy]
  | .sl _ _ _ rows, b, h, hh => by
    simp only [Mk] at h; obtain ⟨r1, rfl, h1⟩ := h
    simp only [Roomy] at hh ⊢; exact ⟨(MkRows.length rows r1 h1).trans hh.1, MkRows.roomy rows r1 h1 hh.2⟩
theorem MkRows.roomy : ∀ (a b : List (List C)), MkRows a b → RoomyRows a → RoomyRows b
  | [], b, h, _ => by simp only [MkRows] at h; subst h; simp [RoomyRows]
  | r :: rs, b, h, hh => by
    simp only [MkRows] at h; obtain ⟨r1, t1, rfl, h1, h2⟩ := h
    simp only [RoomyRows] at hh ⊢; exact ⟨MkRow.roomy r r1 h1 hh.1, MkRows.roomy rs t1 h2 hh.2⟩
theorem MkRow.roomy : ∀ (a b : List C), MkRow a b → RoomyRow a → RoomyRow b
  | [], b, h, _ => by simp only [MkRow] at h; subst h; simp [RoomyRow]
  | r :: rs, b, h, hh => by
    simp only [MkRow] at h; obtain ⟨r1, t1, rfl, h1, h2⟩ := h
    simp only [RoomyRow] at hh ⊢; exact ⟨Mk.roomy r r1 h1 hh.1, MkRow.roomy rs t1 h2 hh.2⟩
end
end Go.Vt
