/- A row of one's own reads as data in new memory. -/
import Derived.Test.YtaibjehembkolaaGreatDoorOwn2
import Derived.Test.YtaibjehembkolaaGreatDoorGen
import Derived.Deep.AppendLies
import Derived.Maps.AppendAt
namespace Go.Vt
open Go.RowKit
/-- No slice. -/
def Sc : C → Prop
  | .sl .. => False
  | _ => True
theorem Rd.sc {F F' : Nat → Prop} {w w' : World} {c : C} {v : Value} (h : Rd F w c v) (hs : Sc c) : Rd F' w' c v := by
  cases c <;> simp only [Sc] at hs <;> simpa only [Rd] using h
theorem RdVals.sc {F F' : Nat → Prop} {w w' : World} : ∀ (cs : List C) (vs : List Value), (∀ c ∈ cs, Sc c) → RdVals F w cs vs → RdVals F' w' cs vs
  | [], [], _, _ => trivial
  | c :: cs, v :: vs, hs, h => ⟨h.1.sc (hs c (by simp)), RdVals.sc cs vs (fun x hx => hs x (by simp [hx])) h.2⟩
  | [], _ :: _, _, h => h.elim
  | _ :: _, [], _, h => h.elim
theorem RdFlat.sc {F F' : Nat → Prop} {w w' : World} : ∀ (rs : List (List C)) (vs : List Value), (∀ r ∈ rs, ∀ c ∈ r, Sc c) → RdFlat F w rs vs → RdFlat F' w' rs vs
  | [], _, _, h => h
  | r :: rs, _, hs, ⟨v1, v2, e, h1, h2⟩ => ⟨v1, v2, e, RdVals.sc r v1 (hs r (by simp)) h1, RdFlat.sc rs v2 (fun x hx => hs x (by simp [hx])) h2⟩
def CT.sc : CT → Bool
  | .sl _ => false
  | _ => true
theorem Ht.sc {tab : Nat → List CT} {t : CT} {c : C} (h : Ht tab t c) (ht : t.sc = true) : Sc c := by
  cases c <;> simp only [Sc, Ht] at h ⊢
  obtain ⟨e, rfl, _⟩ := h
  simp [CT.sc] at ht
theorem HtRow.sc {tab : Nat → List CT} : ∀ (ts : List CT) (cs : List C), (∀ t ∈ ts, t.sc = true) → HtRow tab ts cs → ∀ c ∈ cs, Sc c
  | [], [], _, _ => by simp
  | t :: ts, c :: cs, hs, h => by
    simp only [HtRow] at h
    intro x hx
    rcases List.mem_cons.1 hx with rfl | hx
    · exact h.1.sc (hs t (by simp))
    · exact HtRow.sc ts cs (fun y hy => hs y (by simp [hy])) h.2 x hx
  | [], _ :: _, _, h => by simp [HtRow] at h
  | _ :: _, [], _, h => by simp [HtRow] at h
theorem HtRows.sc {tab : Nat → List CT} {ts : List CT} (hs : ∀ t ∈ ts, t.sc = true) : ∀ (rs : List (List C)), HtRows tab ts rs → ∀ r ∈ rs, ∀ c ∈ r, Sc c
  | [], _ => by simp
  | r :: rs, h => by
    simp only [HtRows] at h
    intro x hx
    rcases List.mem_cons.1 hx with rfl | hx
    · exact HtRow.sc ts _ hs h.1
    · exact HtRows.sc hs rs h.2 x hx
/-- A row of one's own reads as data in new memory. -/
theorem Rd.of_own {w : World} {B e sz len : Nat} {v : Value} {xs : List Value} {rows : List (List C)} (h : w.ownsRow B e sz v len xs) (hf : RdFlat (Nw B w) w rows xs) (hl : rows.length = len) (hlen : ∀ r ∈ rows, r.length = sz) :
    ∃ cap, Rd (Nw B w) w (.sl sz len cap rows) v := by
  rcases h.2 with ⟨rfl, rfl⟩ | ⟨g, cap, cur, rfl, hg, hb, hc, _, hs, _⟩
  · have : rows = [] := List.length_eq_zero_iff.1 hl
    subst this
    exact ⟨0, by simp only [Rd]; exact ⟨none, rfl, by simp, by simp, .inl (by first | trivial | rfl)⟩⟩
  · refine ⟨cap, ?_⟩
    simp only [Rd]
    have hlt : g < w.heap.size := (Array.getElem?_eq_some_iff.1 hb).1
    refine ⟨some ⟨g, 0, none⟩, rfl, by omega, by omega, .inr ⟨g, 0, rfl, ⟨hg, hlt, _, _, hb⟩, ?_⟩⟩
    refine RdFlat.rows rows xs 0 hf hlen (fun j u hu => ?_)
    have := h.cells (g := g) rfl j u hu
    have hadd : (⟨g, 0, none⟩ : Addr).add j = ⟨g, 0 + j, none⟩ := by unfold Addr.add; split <;> simp_all
    rwa [hadd] at this
/-- What a slice that reads hands to an append, behind one new block, cell by cell. -/
theorem Rd.news {F : Nat → Prop} {w : World} {sz len cap : Nat} {rows : List (List C)} {ad : Addr} (h : Rd F w (.sl sz len cap rows) (.slice (some ad) len cap)) (X : Obj) :
    ∃ news, RdFlat F w (rows.take len) news ∧ news.length = len * sz ∧ (∀ j u, news[j]? = some u → (w.alloc X).cell? (ad.add j) = some u) ∧ ∀ u ∈ news, u.oneCell' = true := by
  simp only [Rd] at h
  obtain ⟨a, h1, h2, h3, h4⟩ := h
  injection h1 with h1
  subst h1
  rcases h4 with rfl | ⟨b, o, h5, hF, h4⟩
  · obtain rfl : len = 0 := by simpa using h2
    exact ⟨[], by simp [RdFlat], by simp, by simp, by simp⟩
  · injection h5 with h5
    subst h5
    obtain ⟨news, k1, k2, k3⟩ := (RdRows.take len h4).flat
    have hl : news.length = len * sz := by rw [k2, List.length_take, Nat.min_eq_left h2]
    refine ⟨news, k1, hl, fun j u hu => ?_, RdFlat.oneCell _ _ k1⟩
    have hc := k3 j u hu
    have hadd : (⟨b, o, none⟩ : Addr).add j = ⟨b, o + j, none⟩ := by unfold Addr.add; split <;> simp_all
    rw [hadd, World.cell?_alloc_past _ _ _ (World.block_lt_of_cell? w _ hc)]
    exact hc
end Go.Vt
