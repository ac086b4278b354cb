/- The functions that a call can come to, by a table of who names whom. -/
import GoSem.ClaimJoined
import GoSem.ClaimGoes
namespace Go.Vt
/-- The program's walk over names, by a function that tells whom each names. -/
def viaT (T : Nat → List Nat) : Nat → List Nat → List Nat → List Nat
  | 0, _, seen => seen.reverse
  | _ + 1, [], seen => seen.reverse
  | n + 1, f :: todo, seen => if seen.contains f then viaT T n todo seen else viaT T n (T f ++ todo) (f :: seen)
/-- The same, what is seen kept in the bits of a number, too. -/
def viaB (T : Nat → List Nat) : Nat → List Nat → List Nat → Nat → List Nat
  | 0, _, seen, _ => seen.reverse
  | _ + 1, [], seen, _ => seen.reverse
  | n + 1, f :: todo, seen, bits => match bits.testBit f with
    | true => viaB T n todo seen bits
    | false => viaB T n (T f ++ todo) (f :: seen) (bits ||| 1 <<< f)
theorem closureVia_eq (P : Program) (T : Nat → List Nat) (hT : ∀ g, (P.funcs[g]?).elim [] P.leadsTo = T g) : ∀ n todo seen, P.closureVia n todo seen = viaT T n todo seen
  | 0, todo, seen => by simp only [Program.closureVia, viaT]
  | n + 1, [], seen => by simp only [Program.closureVia, viaT]
  | n + 1, f :: todo, seen => by
    simp only [Program.closureVia, viaT, hT]
    rw [closureVia_eq P T hT n, closureVia_eq P T hT n]
theorem viaT_eq (T : Nat → List Nat) : ∀ n todo seen bits, (∀ k, bits.testBit k = seen.contains k) → viaT T n todo seen = viaB T n todo seen bits
  | 0, todo, seen, bits, _ => by simp only [viaT, viaB]
  | n + 1, [], seen, bits, _ => by simp only [viaT, viaB]
  | n + 1, f :: todo, seen, bits, h => by
    simp only [viaT, viaB]
    cases hb : bits.testBit f with
    | true =>
      rw [if_pos (by rw [← h f]; exact hb)]
      exact viaT_eq T n todo seen bits h
    | false =>
      rw [if_neg (by rw [← h f, hb]; decide)]
      refine viaT_eq T n (T f ++ todo) (f :: seen) _ (fun k => ?_)
      rw [Nat.testBit_or, h k, List.contains_cons, Nat.one_shiftLeft, Nat.testBit_two_pow]
      by_cases e : f = k
      · subst e; simp
      · have e' : ¬ k = f := fun x => e x.symm
        simp [e, e']
/-- A table of rows of thirty-two. -/
def tabAt (LL : List (List (List Nat))) (N g : Nat) : List Nat := if g < N then ((LL.getD (g / 32) []).getD (g % 32) []) else []
theorem leads_eq {P : Program} {LL : List (List (List Nat))} {N : Nat} (hN : P.funcs.size = N) (h : P.funcs.toList.map P.leadsTo = (List.range N).map (tabAt LL N)) (g : Nat) : (P.funcs[g]?).elim [] P.leadsTo = tabAt LL N g := by
  by_cases hg : g < N
  · have h1 := congrArg (fun l : List (List Nat) => l[g]?) h
    simp only [List.getElem?_map, List.getElem?_range hg, Option.map_some, Array.getElem?_toList] at h1
    cases hx : P.funcs[g]? with
    | none => rw [hx] at h1; cases h1
    | some fn => rw [hx] at h1; simpa using h1
  · have : P.funcs[g]? = none := Array.getElem?_eq_none (by omega)
    rw [this]
    simp only [tabAt, if_neg hg, Option.elim]
/-- The functions that f can come to. -/
theorem closure_eq {P : Program} {LL : List (List (List Nat))} {N f : Nat} {C : List Nat} (hN : P.funcs.size = N) (h : P.funcs.toList.map P.leadsTo = (List.range N).map (tabAt LL N))
    (hC : viaB (tabAt LL N) (1 + ((List.range N).map fun g => (tabAt LL N g).length + 1).sum) [f] [] 0 = C) : P.closure f = C := by
  unfold Program.closure
  rw [closureVia_eq P _ (leads_eq hN h), viaT_eq _ _ _ _ 0 (fun k => by simp)]
  rw [← hC]
  have e : (P.funcs.toList.map fun g => (P.leadsTo g).length + 1) = (List.range N).map fun g => (tabAt LL N g).length + 1 := by
    have := congrArg (List.map fun l : List Nat => l.length + 1) h
    rw [List.map_map, List.map_map] at this
    exact this
  rw [e]
/-- The places in a list where p holds. -/
def idxs {α : Type} (p : α → Bool) : List α → Nat → List Nat
  | [], _ => []
  | x :: xs, k => match p x with
    | true => k :: idxs p xs (k + 1)
    | false => idxs p xs (k + 1)
theorem idxs_eq {α : Type} (p : α → Bool) : ∀ (l : List α) (k : Nat), (List.range' k l.length).filter (fun i => (l[i - k]?).any p) = idxs p l k
  | [], k => by simp [idxs]
  | x :: xs, k => by
    have ih := idxs_eq p xs (k + 1)
    have e : ∀ i ∈ List.range' (k + 1) xs.length, ((x :: xs)[i - k]?).any p = (xs[i - (k + 1)]?).any p := by
      intro i hi
      have := (List.mem_range'_1.1 hi).1
      rw [show i - k = i - (k + 1) + 1 from by omega, List.getElem?_cons_succ]
    rw [List.length_cons, List.range'_succ, List.filter_cons, Nat.sub_self, List.getElem?_cons_zero, Option.any_some, List.filter_congr e, ih]
    simp only [idxs]
    cases p x <;> simp
theorem funcNamed_eq {P : Program} {name : String} {f : Nat} (h : idxs (fun fn : Func => fn.name == name) P.funcs.toList 0 = [f]) : P.funcNamed name = some f := by
  unfold Program.funcNamed
  have := idxs_eq (fun fn : Func => fn.name == name) P.funcs.toList 0
  rw [h, ← List.range_eq_range', Array.length_toList] at this
  simp only [Nat.sub_zero, Array.getElem?_toList] at this
  rw [this]
theorem all_list {α : Type} {p : α → Bool} {a : Array α} (h : a.toList.all p = true) : a.all p = true := by rw [← Array.all_toList]; exact h
theorem any_list {α : Type} {p : α → Bool} {a : Array α} {b : Bool} (h : a.toList.any p = b) : a.any p = b := by rw [← Array.any_toList]; exact h
/-- A table of rows of thirty-two, of whatever. -/
def tabOf {α : Type} (d : α) (LL : List (List α)) (N g : Nat) : α := if g < N then ((LL.getD (g / 32) []).getD (g % 32) d) else d
theorem tabOf_eq {α : Type} {P : Program} {F : Func → α} {d : α} {LL : List (List α)} {N : Nat} (hN : P.funcs.size = N) (h : P.funcs.toList.map F = (List.range N).map (tabOf d LL N)) (g : Nat) : ((P.funcs[g]?).map F).getD d = tabOf d LL N g := by
  by_cases hg : g < N
  · have h1 := congrArg (fun l : List α => l[g]?) h
    simp only [List.getElem?_map, List.getElem?_range hg, Option.map_some, Array.getElem?_toList] at h1
    rw [h1]; rfl
  · have : P.funcs[g]? = none := Array.getElem?_eq_none (by omega)
    rw [this]
    simp only [tabOf, if_neg hg, Option.map_none, Option.getD_none]
/-- What the call can come to that has no Go text, by name. -/
theorem inPlace_eq {P : Program} {f N : Nat} {C : List Nat} {LL : List (List (Option String))} (hC : P.closure f = C) (hN : P.funcs.size = N)
    (h : P.funcs.toList.map (fun fn => if fn.ours || fn.body.isNone || fn.name == "runtime.NumGoroutine" then some fn.name else none) = (List.range N).map (tabOf none LL N)) : P.inPlace f = C.filterMap (tabOf none LL N) := by
  unfold Program.inPlace
  rw [hC]
  refine congrArg (fun F => C.filterMap F) (funext fun g => ?_)
  rw [← tabOf_eq hN h g]
  cases P.funcs[g]? <;> rfl
/-- The variables that the call's text names. -/
theorem varsNamed_eq {P : Program} {f N : Nat} {C : List Nat} {GG : List (List (List Nat))} {EE : List (List (Option String))} (hC : P.closure f = C) (hN : P.funcs.size = N)
    (hg : P.funcs.toList.map (fun fn => fn.body.elim [] Code.globalsNamed) = (List.range N).map (tabOf [] GG N))
    (he : P.funcs.toList.map (fun fn => if fn.body.isNone then entryReads.lookup fn.name else none) = (List.range N).map (tabOf none EE N)) :
    P.varsNamed f = ((((C.flatMap (tabOf [] GG N)).eraseDups).filterMap (fun g => (P.globals[g]?).map (·.name))) ++ C.filterMap (tabOf none EE N)).eraseDups := by
  unfold Program.varsNamed
  rw [hC]
  have e1 : (fun g => ((P.funcs[g]?).bind (·.body)).elim [] Code.globalsNamed) = tabOf [] GG N := funext fun g => by
    rw [← tabOf_eq hN hg g]
    cases P.funcs[g]? <;> rfl
  have e2 : (fun g => (P.funcs[g]?).bind fun fn => if fn.body.isNone then entryReads.lookup fn.name else none) = tabOf none EE N := funext fun g => by
    rw [← tabOf_eq hN he g]
    cases P.funcs[g]? <;> rfl
  rw [e1, e2]
/-- Where no function of the program starts a goroutine, none that is come to does. -/
theorem goes_none {P : Program} (h : P.funcs.any Func.goes = false) (C : List Nat) : (C.any fun g => (P.funcs[g]?).any Func.goes) = false := by
  rw [List.any_eq_false]
  intro g _
  cases hx : P.funcs[g]? with
  | none => simp
  | some fn =>
    rw [Array.any_eq_false] at h
    obtain ⟨hg, rfl⟩ := Array.getElem?_eq_some_iff.1 hx
    simpa using h g hg
end Go.Vt
