/- The contract of a function that shows data to an eye. -/
import Derived.Test.YtaibjehembkolaaGreatDoorEye
namespace Go.Vt
open Go.RowKit

def lim : Nat := 1099511627776

/-- What a step of an eye turns: the eye's place, what is new, and, where it marks, scalars of what it sees. -/
structure SeeChg (mk : Bool) (F : Nat → Prop) (B be oe : Nat) (w w' : World) : Prop where
  fr : Fr (fun k => k = be ∨ B ≤ k ∨ (mk = true ∧ F k)) w w'
  eye : ∃ c c' e, w.heap[be]? = some (.cells c e (0, 0)) ∧ w'.heap[be]? = some (.cells c' e (0, 0)) ∧ c'.size = c.size ∧ ∀ i, (i < oe ∨ oe + 5 ≤ i) → c'[i]? = c[i]?
  chg : Chg mk F w w'
theorem SeeChg.trans {mk : Bool} {F : Nat → Prop} {B be oe : Nat} {a b c : World} (h : SeeChg mk F B be oe a b) (k : SeeChg mk F B be oe b c) : SeeChg mk F B be oe a c := by
  refine ⟨h.fr.trans k.fr, ?_, fun i hi => ?_⟩
  · obtain ⟨x, x', e, h1, h2, h3, h4⟩ := h.eye
    obtain ⟨y, y', e', k1, k2, k3, k4⟩ := k.eye
    rw [h2] at k1; injection k1 with k1; injection k1 with k1 k5 _; subst k1 k5
    exact ⟨x, y', e, h1, k2, k3.trans h3, fun i hi => (k4 i hi).trans (h4 i hi)⟩
  · have h1 := h.chg i hi
    have k1 := k.chg i hi
    cases mk with
    | true => simp only [if_true] at h1 k1 ⊢; exact h1.trans k1
    | false => simp only [Bool.false_eq_true, if_false] at h1 k1 ⊢; exact k1.trans h1

structure SeePre (e1 e2 : Nat) (tab : Nat → List CT) (cts : List CT) (mk rm : Bool) (cs : List C) (F : Nat → Prop) (w : World) (be oe B b o : Nat) (ns : List Int) (ss : List ByteArray) (at_ : Int) : Prop where
  ht : HtRow tab cts cs
  f : F b
  rd : RdRow F w b o cs
  uf : mk = true → ∀ k, F k → ∃ c e, w.heap[k]? = some (.cells c e (0, 0))
  fb : ∀ k, F k → k < B ∧ k ≠ be
  bs : B ≤ w.heap.size
  eye : Eye e1 e2 w be oe B ns ss mk at_ rm
  room : rm = true → RoomyRow cs
  ln : ns.length + nodesRow cs ≤ lim
  ls : ss.length + nodesRow cs ≤ lim
  a0 : 0 ≤ at_
  la : at_ + nodesRow cs ≤ lim

/-- What an eye has seen. 'n': how much there was. -/
structure Seen (e1 e2 : Nat) (mk rm : Bool) (n : Nat) (on : List Int) (os : List ByteArray) (F : Nat → Prop) (w : World) (be oe B : Nat) (ns : List Int) (ss : List ByteArray) (at_ : Int) (w' : World) (ns' : List Int) (ss' : List ByteArray) (at' : Int) : Prop where
  eye : Eye e1 e2 w' be oe B ns' ss' mk at' rm
  ln : ns'.length ≤ ns.length + n
  ls : ss'.length ≤ ss.length + n
  a0 : at_ ≤ at'
  la : at' ≤ at_ + n
  same : mk = false → ns' = ns ++ on ∧ ss' = ss ++ os ∧ at' = at_
  chg : SeeChg mk F B be oe w w'
def SeePost (e1 e2 : Nat) (mk rm : Bool) (n : Nat) (on : List Int) (os : List ByteArray) (F : Nat → Prop) (w : World) (be oe B : Nat) (ns : List Int) (ss : List ByteArray) (at_ : Int) (e : Ending) (w' : World) : Prop :=
  e = .returned (.tuple #[]) ∧ ∃ ns' ss' at', Seen e1 e2 mk rm n on os F w be oe B ns ss at_ w' ns' ss' at'

/-- f sees what has the types cts, up to n in size. -/
def SeeOK (P : Program) (e1 e2 : Nat) (tab : Nat → List CT) (n : Nat) (f : FuncId) (cts : List CT) : Prop :=
  ∀ (mk rm : Bool) (cs : List C) (F : Nat → Prop) (w : World) (be oe B b o : Nat) (ns : List Int) (ss : List ByteArray) (at_ : Int), nodesRow cs ≤ n → SeePre e1 e2 tab cts mk rm cs F w be oe B b o ns ss at_ →
    Calls P f #[.pointer (some ⟨be, oe, none⟩), .pointer (some ⟨b, o, none⟩)] w (SeePost e1 e2 mk rm (nodesRow cs) (obsNRow rm cs) (obsSRow rm cs) F w be oe B ns ss at_)

theorem Seen.trans {e1 e2 : Nat} {mk rm : Bool} {n m : Nat} {on om : List Int} {os ot : List ByteArray} {F : Nat → Prop} {w w1 w2 : World} {be oe B : Nat} {ns ns1 ns2 : List Int} {ss ss1 ss2 : List ByteArray} {a a1 a2 : Int}
    (h : Seen e1 e2 mk rm n on os F w be oe B ns ss a w1 ns1 ss1 a1) (k : Seen e1 e2 mk rm m om ot F w1 be oe B ns1 ss1 a1 w2 ns2 ss2 a2) : Seen e1 e2 mk rm (n + m) (on ++ om) (os ++ ot) F w be oe B ns ss a w2 ns2 ss2 a2 :=
  ⟨k.eye, by have := h.ln; have := k.ln; omega, by have := h.ls; have := k.ls; omega, by have := h.a0; have := k.a0; omega, by have := h.la; have := k.la; omega,
    fun hm => by
      obtain ⟨h1, h2, h3⟩ := h.same hm
      obtain ⟨k1, k2, k3⟩ := k.same hm
      subst h1 h2 h3 k1 k2 k3
      exact ⟨by simp, by simp, rfl⟩, h.chg.trans k.chg⟩

theorem HtRow.split {tab : Nat → List CT} : ∀ (t1 t2 : List CT) (cs : List C), HtRow tab (t1 ++ t2) cs → ∃ c1 c2, cs = c1 ++ c2 ∧ c1.length = t1.length ∧ HtRow tab t1 c1 ∧ HtRow tab t2 c2
  | [], t2, cs, h => ⟨[], cs, rfl, rfl, by simp [HtRow], h⟩
  | t :: ts, t2, [], h => by simp [HtRow] at h
  | t :: ts, t2, c :: cs, h => by
    simp only [List.cons_append, HtRow] at h
    obtain ⟨c1, c2, rfl, h1, h2, h3⟩ := HtRow.split ts t2 cs h.2
    exact ⟨c :: c1, c2, rfl, by simp [h1], by simp only [HtRow]; exact ⟨h.1, h2⟩, h3⟩
theorem RdRow.split {F : Nat → Prop} {w : World} {b : Nat} : ∀ (c1 c2 : List C) (o : Nat), RdRow F w b o (c1 ++ c2) → RdRow F w b o c1 ∧ RdRow F w b (o + c1.length) c2
  | [], c2, o, h => ⟨by simp [RdRow], h⟩
  | c :: cs, c2, o, h => by
    simp only [List.cons_append, RdRow] at h
    obtain ⟨h1, h2⟩ := RdRow.split cs c2 (o + 1) h.2
    refine ⟨by simp only [RdRow]; exact ⟨h.1, h1⟩, ?_⟩
    rw [List.length_cons, show o + (cs.length + 1) = o + 1 + cs.length from by omega]; exact h2
theorem RoomyRow.split : ∀ (c1 c2 : List C), RoomyRow (c1 ++ c2) → RoomyRow c1 ∧ RoomyRow c2
  | [], c2, h => ⟨by simp [RoomyRow], h⟩
  | c :: cs, c2, h => by
    simp only [List.cons_append, RoomyRow] at h
    obtain ⟨h1, h2⟩ := RoomyRow.split cs c2 h.2
    exact ⟨by simp only [RoomyRow]; exact ⟨h.1, h1⟩, h2⟩
theorem obsNRow_app (rm : Bool) : ∀ (a b : List C), obsNRow rm (a ++ b) = obsNRow rm a ++ obsNRow rm b
  | [], b => by simp [obsNRow]
  | c :: cs, b => by simp only [List.cons_append, obsNRow, obsNRow_app rm cs b, List.append_assoc]
theorem obsSRow_app (rm : Bool) : ∀ (a b : List C), obsSRow rm (a ++ b) = obsSRow rm a ++ obsSRow rm b
  | [], b => by simp [obsSRow]
  | c :: cs, b => by simp only [List.cons_append, obsSRow, obsSRow_app rm cs b, List.append_assoc]

section
variable {e1 e2 : Nat} {tab : Nat → List CT} {mk rm : Bool} {F : Nat → Prop} {w : World} {be oe B b o : Nat} {ns : List Int} {ss : List ByteArray} {at_ : Int}
/-- The first part is seen; then what is left, in the world behind it. -/
theorem SeePre.part {t1 t2 : List CT} {cs : List C} (h : SeePre e1 e2 tab (t1 ++ t2) mk rm cs F w be oe B b o ns ss at_) :
    ∃ c1 c2, nodesRow c1 + nodesRow c2 = nodesRow cs ∧ SeePre e1 e2 tab t1 mk rm c1 F w be oe B b o ns ss at_ ∧
      ∀ w1 ns1 ss1 at1, Seen e1 e2 mk rm (nodesRow c1) (obsNRow rm c1) (obsSRow rm c1) F w be oe B ns ss at_ w1 ns1 ss1 at1 →
        ∃ c2', nodesRow c2' = nodesRow c2 ∧ SeePre e1 e2 tab t2 mk rm c2' F w1 be oe B b (o + t1.length) ns1 ss1 at1 ∧
          ∀ w2 ns2 ss2 at2, Seen e1 e2 mk rm (nodesRow c2') (obsNRow rm c2') (obsSRow rm c2') F w1 be oe B ns1 ss1 at1 w2 ns2 ss2 at2 →
            Seen e1 e2 mk rm (nodesRow cs) (obsNRow rm cs) (obsSRow rm cs) F w be oe B ns ss at_ w2 ns2 ss2 at2 := by
  obtain ⟨c1, c2, rfl, hl, k1, k2⟩ := HtRow.split t1 t2 cs h.ht
  obtain ⟨r1, r2⟩ := RdRow.split c1 c2 o h.rd
  have hn : nodesRow c1 + nodesRow c2 = nodesRow (c1 ++ c2) := (nodesRow_app c1 c2).symm
  have hl1 := h.ln; have hl2 := h.ls; have hl3 := h.la
  refine ⟨c1, c2, hn, ⟨k1, h.f, r1, h.uf, h.fb, h.bs, h.eye, fun hr => (RoomyRow.split c1 c2 (h.room hr)).1, by omega, by omega, h.a0, by omega⟩, ?_⟩
  intro w1 ns1 ss1 at1 hs
  obtain ⟨c2', m1, m2, m3⟩ := Rd.chgMk hs.chg.chg h.f r2
  have hnn := MkRow.nodes _ _ m1
  have e1' := hs.ln; have e2' := hs.ls; have e3' := hs.la; have e4' := hs.a0; have h0 := h.a0
  refine ⟨c2', hnn, ⟨MkRow.ht t2 c2 c2' m1 k2, h.f, by rw [← hl]; exact m3, ?_, h.fb, Nat.le_trans h.bs hs.chg.fr.size, hs.eye, fun hr => MkRow.roomy c2 c2' m1 (RoomyRow.split c1 c2 (h.room hr)).2, by omega, by omega, by omega, by omega⟩, ?_⟩
  · intro hm k hk
    have := hs.chg.chg k hk
    rw [if_pos hm] at this
    exact this.blk
  · intro w2 ns2 ss2 at2 ht
    have := hs.trans ht
    refine ⟨this.eye, by have := this.ln; omega, by have := this.ls; omega, this.a0, by have := this.la; omega, fun hm => ?_, this.chg⟩
    have hc := m2 hm
    subst hc
    rw [obsNRow_app, obsSRow_app]
    exact this.same hm
/-- The last part. -/
theorem SeePre.size {cts : List CT} {cs : List C} (h : SeePre e1 e2 tab cts mk rm cs F w be oe B b o ns ss at_) : b < w.heap.size := by
  have := (h.fb b h.f).1; have := h.bs; omega
end
end Go.Vt
