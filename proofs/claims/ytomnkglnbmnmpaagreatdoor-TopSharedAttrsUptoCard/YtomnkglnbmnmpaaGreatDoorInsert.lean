/- slices.Insert and slices.Delete at attributes of one's own; attrs.Words and Class. -/
import Derived.Test.YtomnkglnbmnmpaaGreatDoorTwin
import Derived.WalkKit
import Derived.WalkSpells
import Derived.WalkLawsBesides
import Derived.Deep.AppendLies
import Derived.Shelf.Spec.SlicesInsertGrow
import Derived.Lib.EndianMore
import Derived.Test.YtomnkglnbmnmpaaGreatDoorLinks
import Derived.WalkMore
namespace Go.Proofs.YtomnkglnbmnmpaaGreatDoor
open Go.RowKit Go.Vt Go.Proofs
/-- copy, at rows of two cells. -/
theorem run_copy2 {P : Program} (w : World) (dT sT ty elem : TypeId) (b o dLen dCap : Nat) (a : Addr) (sLen sCap n : Nat) (cs : List Value)
    (hu : P.underlying dT = some (.slice elem)) (hs : (P.info? elem).map (·.size) = some 2) (hn : Nat.min sLen dLen = n) (hl : cs.length = n * 2)
    (hsrc : ∀ j v, cs[j]? = some v → w.cell? (a.add j) = some v) (hc : ∀ j, j < cs.length → (w.cell? ⟨b, o + j, none⟩).isSome = true) (hf : ∀ j, j < cs.length → w.frozen? ⟨b, o + j, none⟩ = false) (h1 : ∀ v ∈ cs, v.oneCell' = true) :
    (Builtin.copy_ #[dT, sT] ty #[.slice (some ⟨b, o, none⟩) dLen dCap, .slice (some a) sLen sCap]).run P w = .ok (goInt n) (w.setCells b o cs) := by
  have hl2 := run_loadCells_list (P := P) w a cs hsrc
  have hst := run_storeCells_cells (P := P) b o cs 0 w (by simpa using hc) (by simpa using hf) h1
  rw [hl] at hl2
  cases hq : P.info? elem with
  | none => simp [hq] at hs
  | some i =>
    have hi : i.size = 2 := by simpa [hq] using hs
    simp [Builtin.copy_, run_underlying hu, Builtin.lenOf, Builtin.firstCells, sizeOf, typeInfo, hq, hi, hn, hl2, hst]
theorem txt_one {cs : List Value} (h : ∀ v ∈ cs, IsTxt v) : ∀ v ∈ cs, v.oneCell' = true := fun v hv => by
  obtain ⟨z, rfl, _⟩ := h v hv
  rfl
theorem attr_size : (Tryz.prog.info? 116).map (·.size) = some 2 := by kernel_rfl
set_option maxHeartbeats 4000000 in
set_option maxRecDepth 100000 in
/-- slices.Insert at attributes, at the end, no room: a new row. -/
theorem insA_end_grow (base : Option Addr) (n c vb : Nat) (cs vs : List Value) (w : World) (hnc : n ≤ c) (hroom : c < n + 1) (hbig : n ≤ 1099511627776) (hcl : cs.length = n * 2) (hvl : vs.length = 2) (hnil : base = none → n = 0)
    (hcs : ∀ a, base = some a → ∀ j v, cs[j]? = some v → w.cell? (a.add j) = some v) (hvs : ∀ j v, vs[j]? = some v → w.cell? ⟨vb, j, none⟩ = some v) (h1v : ∀ v ∈ vs, v.oneCell' = true) :
    Calls Tryz.prog 84 #[.slice base n c, .int .i64 n, .slice (some ⟨vb, 0, none⟩) 1 1] w fun e w' =>
      e = .returned (.slice (some ⟨w.heap.size, 0, none⟩) (n + 1) (grownCap w (n + 1) c 116)) ∧
      w' = w.drew.alloc (.cells ((cs ++ vs).toArray ++ Builtin.zeroCells #[Value.string ⟨#[]⟩, Value.string ⟨#[]⟩] (grownCap w (n + 1) c 116 - (n + 1))) 116) := by
  obtain ⟨i0, hi0, hz0, hzs, hzb⟩ := info_parts zinfo116
  have hsrc : Src Tryz.prog i0.size 105 (.slice (some ⟨vb, 0, none⟩) 1 1) 1 vs w := by
    rw [hzs]
    exact Src.ofSlice w Tryz.underlying105 ⟨vb, 0, none⟩ 1 1 vs (by omega) (fun j u hj => by rw [Addr.add_lit, Nat.zero_add]; exact hvs j u hj) h1v
  have hold : (Builtin.firstCells i0.size n (.slice base n c)).run Tryz.prog w.drew = .ok cs.toArray w.drew := by
    rw [hzs]
    cases base with
    | none =>
      have h0 := hnil rfl
      subst h0
      obtain rfl : cs = [] := List.length_eq_zero_iff.1 (by simpa using hcl)
      exact run_firstCells_none w.drew 2 0 0 c
    | some a => exact run_firstCells_some w.drew 2 n a n c cs (by omega) (fun j v hj => hcs a rfl j v hj)
  have hrun : ∀ ty, (Builtin.append_ #[105, 105] ty #[.slice base n c, .slice (some ⟨vb, 0, none⟩) 1 1]).run Tryz.prog w = _ := fun ty =>
    run_append_grow_src w 105 105 ty 116 i0 _ Tryz.underlying105 hi0 hz0 base n c cs hold _ 1 vs hsrc hroom (by omega) (by rw [hzb]; exact growslice_fits hroom (by omega))
  clear hi0 hz0 hzs hzb hsrc hold
  go_enter Tryz.func84, Tryz.ntmps84
  cases base with
  | none =>
    have h0 := hnil rfl
    subst h0
    obtain rfl : cs = [] := List.length_eq_zero_iff.1 (by simpa using hcl)
    go_wp2_with (at_builtin; refine Lib.wpList_append_run _ rfl _ _ _ _ rfl _ _ rfl rfl _ _ (hrun _) ?_)
    go_ret
    exact ⟨rfl, rfl⟩
  | some a =>
    obtain ⟨ab, ao, asp⟩ := a
    go_wp2_with (at_builtin; refine Lib.wpList_append_run _ rfl _ _ _ _ rfl _ _ rfl rfl _ _ (hrun _) ?_)
    all_goals (go_ret; exact ⟨rfl, rfl⟩)
set_option maxHeartbeats 4000000 in
set_option maxRecDepth 100000 in
/-- slices.Insert at attributes, at the end, with room: in place. -/
theorem insA_end_room (b n c vb : Nat) (vs : List Value) (w : World) (hroom : n + 1 ≤ c) (hc63 : c ≤ 9223372036854775807) (hvl : vs.length = 2)
    (hsp : ∀ j, j < 2 → (w.cell? ⟨b, n * 2 + j, none⟩).isSome = true) (hfz : ∀ j, j < 2 → w.frozen? ⟨b, n * 2 + j, none⟩ = false)
    (hvs : ∀ j v, vs[j]? = some v → w.cell? ⟨vb, j, none⟩ = some v) (h1v : ∀ v ∈ vs, v.oneCell' = true) :
    Calls Tryz.prog 84 #[.slice (some ⟨b, 0, none⟩) n c, .int .i64 n, .slice (some ⟨vb, 0, none⟩) 1 1] w fun e w' =>
      e = .returned (.slice (some ⟨b, 0, none⟩) (n + 1) c) ∧ w' = w.setCells b (n * 2) vs := by
  obtain ⟨i0, hi0, hz0, hzs, hzb⟩ := info_parts zinfo116
  have hsrc : Src Tryz.prog i0.size 105 (.slice (some ⟨vb, 0, none⟩) 1 1) 1 vs w := by
    rw [hzs]
    exact Src.ofSlice w Tryz.underlying105 ⟨vb, 0, none⟩ 1 1 vs (by omega) (fun j u hj => by rw [Addr.add_lit, Nat.zero_add]; exact hvs j u hj) h1v
  have hsp' : ∀ j, j < vs.length → (w.cell? ⟨b, 0 + n * i0.size + j, none⟩).isSome = true := fun j hj => by rw [hzs, Nat.zero_add]; exact hsp j (by omega)
  have hfz' : ∀ j, j < vs.length → w.frozen? ⟨b, 0 + n * i0.size + j, none⟩ = false := fun j hj => by rw [hzs, Nat.zero_add]; exact hfz j (by omega)
  clear hsp hfz hz0 hzb
  go_enter Tryz.func84, Tryz.ntmps84
  go_wp2_with (at_builtin; refine wpList_append_room_src _ rfl _ _ 105 105 rfl 116 i0 Tryz.underlying105 hi0 b 0 n c rfl _ rfl 1 vs hsrc hroom hsp' hfz' ?_)
  go_ret
  exact ⟨rfl, by first | rfl | (rw [hzs, Nat.zero_add]) | trivial⟩
set_option maxHeartbeats 4000000 in
set_option maxRecDepth 100000 in
/-- slices.Insert at attributes, ahead of the end, no room: a new row. -/
theorem insA_grow (b n c i vb : Nat) (cs vs : List Value) (w : World) (hi : i < n) (hnc : n ≤ c) (hroom : c < n + 1) (hbig : n ≤ 1099511627776) (hcl : cs.length = n * 2) (hvl : vs.length = 2)
    (hcs : ∀ j v, cs[j]? = some v → w.cell? ⟨b, j, none⟩ = some v) (hvs : ∀ j v, vs[j]? = some v → w.cell? ⟨vb, j, none⟩ = some v) (h1c : ∀ v ∈ cs, v.oneCell' = true) (h1v : ∀ v ∈ vs, v.oneCell' = true) :
    Calls Tryz.prog 84 #[.slice (some ⟨b, 0, none⟩) n c, .int .i64 i, .slice (some ⟨vb, 0, none⟩) 1 1] w fun e w' =>
      e = .returned (.slice (some ⟨w.heap.size, 0, none⟩) (n + 1) (grownCap w (n + 1) c 116)) ∧
      w' = (((w.alloc (.cells ((cs.take (i * 2)).toArray ++ Builtin.zeroCells #[Value.string ⟨#[]⟩, Value.string ⟨#[]⟩] (n + 1 - i) ++ Builtin.zeroCells #[Value.string ⟨#[]⟩, Value.string ⟨#[]⟩] (grownCap w (n + 1) c 116 - (n + 1))) 116)).drew.setCells w.heap.size (i * 2) vs).drew).setCells w.heap.size ((i + 1) * 2) (cs.drop (i * 2)) := by
  obtain ⟨i0, hi0, hz0, hzs, hzb⟩ := info_parts zinfo116
  have hz2 : ¬ ((i : Int) = (n : Int)) := by omega
  have hz3 : (c : Int) < (n : Int) + 1 := by omega
  have hbw : b < w.heap.size := World.block_lt_of_cell? w ⟨b, 0, none⟩ (hcs 0 _ (List.getElem?_eq_getElem (by omega)))
  have hvw : vb < w.heap.size := World.block_lt_of_cell? w ⟨vb, 0, none⟩ (hvs 0 _ (List.getElem?_eq_getElem (by omega)))
  have hkk : (n : Int) + 1 - (i : Int) = ((n + 1 - i : Nat) : Int) := by omega
  have hik : i + (n + 1 - i) = n + 1 := by omega
  have hold : (Builtin.firstCells i0.size i (.slice (some ⟨b, 0, none⟩) i c)).run Tryz.prog w.drew = .ok (cs.take (i * 2)).toArray w.drew := by
    rw [hzs]
    exact run_firstCells_some w.drew 2 i ⟨b, 0, none⟩ i c (cs.take (i * 2)) (by rw [List.length_take]; omega) (fun j v hj => by
      rw [Addr.add_lit, Nat.zero_add]
      rw [List.getElem?_take] at hj
      split at hj
      · exact hcs j v hj
      · cases hj)
  have hrz : ∀ ty, (Builtin.append_ #[105, 3] ty #[.slice (some ⟨b, 0, none⟩) i c, .int .i64 ((n : Int) + 1 - (i : Int))]).run Tryz.prog w =
      .ok (.slice (some ⟨w.heap.size, 0, none⟩) (n + 1) (grownCap w (n + 1) c 116)) (w.drew.alloc (.cells ((cs.take (i * 2)).toArray ++ Builtin.zeroCells #[Value.string ⟨#[]⟩, Value.string ⟨#[]⟩] (n + 1 - i) ++ Builtin.zeroCells #[Value.string ⟨#[]⟩, Value.string ⟨#[]⟩] (grownCap w (n + 1) c 116 - (n + 1))) 116)) := fun ty => by
    have h := Lib.run_append_grow_zeros w 105 3 ty 116 i0 _ .i64 .i64 Tryz.underlying105 Tryz.underlying3 hi0 hz0 (some ⟨b, 0, none⟩) i c (cs.take (i * 2)) hold (n + 1 - i) (by omega) (by omega) (by omega) (by omega) (by rw [hzb]; omega) (by rw [hzb, hik]; exact growslice_fits hroom (by omega))
    rw [hik] at h
    rw [hkk]
    exact h
  obtain ⟨G, hG⟩ : ∃ G, G = grownCap w (n + 1) c 116 := ⟨_, rfl⟩
  obtain ⟨ROW, hROW⟩ : ∃ ROW : Array Value, ROW = (cs.take (i * 2)).toArray ++ Builtin.zeroCells #[Value.string ⟨#[]⟩, Value.string ⟨#[]⟩] (n + 1 - i) ++ Builtin.zeroCells #[Value.string ⟨#[]⟩, Value.string ⟨#[]⟩] (G - (n + 1)) := ⟨_, rfl⟩
  rw [← hG] at hrz ⊢
  rw [← hROW] at hrz ⊢
  have hRl : (n + 1) * 2 ≤ ROW.size := by
    rw [hROW, Array.size_append, Array.size_append, size_zeroCells, size_zeroCells]
    simp [hcl]
    omega
  obtain ⟨W1, hW1⟩ : ∃ W1, W1 = w.drew.alloc (.cells ROW 116) := ⟨_, rfl⟩
  rw [← hW1] at hrz
  have hN : ∀ j, j < (n + 1) * 2 → (W1.cell? ⟨w.heap.size, j, none⟩).isSome = true := fun j hj => by
    rw [hW1, World.cell?_alloc_at (w := w.drew) ROW _ w.heap.size j rfl, Array.getElem?_eq_getElem (by omega)]; rfl
  have hNf : ∀ j, W1.frozen? ⟨w.heap.size, j, none⟩ = false := fun j => by rw [hW1]; exact World.frozen?_alloc_at (w := w.drew) ROW _ w.heap.size j rfl
  have hOb : ∀ j v, w.cell? ⟨b, j, none⟩ = some v → W1.cell? ⟨b, j, none⟩ = some v := fun j v h => by rw [hW1, World.cell?_alloc_past (w := w.drew) _ b j hbw]; exact h
  have hOv : ∀ j v, w.cell? ⟨vb, j, none⟩ = some v → W1.cell? ⟨vb, j, none⟩ = some v := fun j v h => by rw [hW1, World.cell?_alloc_past (w := w.drew) _ vb j hvw]; exact h
  have hcpA : ∀ (W : World), (∀ x, W.cell? x = W1.cell? x) → (∀ x, W.frozen? x = W1.frozen? x) → ∀ ty dc, (Builtin.copy_ #[105, 105] ty #[.slice (some ⟨w.heap.size, i * 2, none⟩) (n + 1 - i) dc, .slice (some ⟨vb, 0, none⟩) 1 1]).run Tryz.prog W = .ok (goInt 1) (W.setCells w.heap.size (i * 2) vs) := fun W hWc hWf ty dc =>
    run_copy2 W _ _ ty 116 w.heap.size (i * 2) (n + 1 - i) dc ⟨vb, 0, none⟩ 1 1 1 vs Tryz.underlying105 attr_size (by simp only [Nat.min_def]; split <;> omega) (by omega)
      (fun j v hj => by rw [Addr.add_lit, hWc, Nat.zero_add]; exact hOv _ v (hvs j v hj))
      (fun j hj => by rw [hWc]; exact hN _ (by omega)) (fun j hj => by rw [hWf]; exact hNf _) h1v
  have hGn : n + 1 ≤ G := by rw [hG]; exact grownCap_ge w _ _ _
  have hG63 : G ≤ 9223372036854775807 := by
    have := grownCap_le_maxLen w (n + 1) c 116 (by unfold maxLen; omega)
    rw [← hG] at this
    unfold maxLen at this
    omega
  have hGi : ¬ (G = i) := by omega
  have hGim : ¬ (G = i + 1) := by omega
  have hci : ¬ (c = i) := by omega
  have hbN : b ≠ w.heap.size := by omega
  have hdl : (cs.drop (i * 2)).length = (n - i) * 2 := by rw [List.length_drop, hcl]; omega
  have hcpB : ∀ (W : World), (∀ x, W.cell? x = (W1.setCells w.heap.size (i * 2) vs).cell? x) → (∀ x, W.frozen? x = (W1.setCells w.heap.size (i * 2) vs).frozen? x) → ∀ ty dc sc, (Builtin.copy_ #[105, 105] ty #[.slice (some ⟨w.heap.size, (i + 1) * 2, none⟩) (n + 1 - (i + 1)) dc, .slice (some ⟨b, i * 2, none⟩) (n - i) sc]).run Tryz.prog W = .ok (goInt ((n - i : Nat) : Int)) (W.setCells w.heap.size ((i + 1) * 2) (cs.drop (i * 2))) := fun W hWc hWf ty dc sc =>
    run_copy2 W _ _ ty 116 w.heap.size ((i + 1) * 2) (n + 1 - (i + 1)) dc ⟨b, i * 2, none⟩ (n - i) sc (n - i) (cs.drop (i * 2)) Tryz.underlying105 attr_size (by simp only [Nat.min_def]; split <;> omega) hdl
      (fun j v hj => by
        rw [Addr.add_lit, hWc, World.cell?_setCells_out _ _ _ _ _ (fun h _ => absurd h hbN)]
        exact hOb _ v (hcs (i * 2 + j) v (by rwa [List.getElem?_drop] at hj)))
      (fun j hj => by rw [hWc]; exact isSome_setCells _ _ _ _ (fun t ht => hN _ (by omega)) _ (hN _ (by omega)))
      (fun j hj => by rw [hWf, World.frozen?_setCells]; exact hNf _) (fun v hv => h1c v (List.mem_of_mem_drop hv))
  subst hW1
  have hE1 : ∀ x, ((w.alloc (.cells ROW 116)).drew).cell? x = (w.drew.alloc (.cells ROW 116)).cell? x := fun x => rfl
  have hE2 : ∀ x, ((w.alloc (.cells ROW 116)).drew).frozen? x = (w.drew.alloc (.cells ROW 116)).frozen? x := fun x => rfl
  have hF1 : ∀ x, (((w.alloc (.cells ROW 116)).drew.setCells w.heap.size (i * 2) vs).drew).cell? x = ((w.drew.alloc (.cells ROW 116)).setCells w.heap.size (i * 2) vs).cell? x := fun x => rfl
  have hF2 : ∀ x, (((w.alloc (.cells ROW 116)).drew.setCells w.heap.size (i * 2) vs).drew).frozen? x = ((w.drew.alloc (.cells ROW 116)).setCells w.heap.size (i * 2) vs).frozen? x := fun x => rfl
  have hw1 : IntKind.i64.wrap ((i : Int) + 1) = (i : Int) + 1 := by rw [IntKind.wrap_i64]; omega
  have hb1 : (0 : Int) ≤ (i : Int) + 1 := by omega
  have hin : i ≤ n := by omega
  have htn : ((i : Int) + 1).toNat = i + 1 := by omega
  have hb3 : (i : Int) ≤ (n : Int) := by omega
  clear hkk hik hold hROW hG hRl
  have mixed : Tryz.prog.follows .mixedOrders = true := by kernel_rfl
  go_enter Tryz.func84, Tryz.ntmps84
  go_wp2_with (first
    | (at_builtin; refine Lib.wpList_append_run _ rfl _ _ _ _ rfl _ _ rfl rfl _ _ (hrz _) ?_)
    | (at_builtin; refine wpList_copy_runI _ rfl _ _ 105 105 rfl _ _ rfl rfl (hcpA _ hE1 hE2 _ _) ?_)
    | (at_builtin; refine wpList_copy_runI _ rfl _ _ 105 105 rfl _ _ rfl rfl (hcpB _ (fun _ => rfl) (fun _ => rfl) _ _ _) ?_))
  go_region_law_o (refine step_copy_runI rfl _ _ 105 105 rfl (.slice (some ⟨w.heap.size, (i + 1) * 2, none⟩) (n + 1 - (i + 1)) (G - (i + 1))) (.slice (some ⟨b, i * 2, none⟩) (n - i) (c - i)) (by simp [Act.eval, Act.put]) (by simp [Act.eval, Act.put]) (hcpB _ hF1 hF2 3 (G - (i + 1)) (c - i)) ?_)
  go_wp2
  go_ret
  exact ⟨rfl, rfl⟩
set_option maxHeartbeats 4000000 in
set_option maxRecDepth 100000 in
/-- slices.Insert at attributes, ahead of the end, with room: in place. -/
theorem insA_shift (b n c i vb : Nat) (cs vs : List Value) (w : World) (hi : i < n) (hroom : n + 1 ≤ c) (hc63 : c ≤ 9223372036854775807) (hvb : vb ≠ b) (hcl : cs.length = n * 2) (hvl : vs.length = 2)
    (hcs : ∀ j v, cs[j]? = some v → w.cell? ⟨b, j, none⟩ = some v) (hsp : ∀ j, j < (n + 1) * 2 → (w.cell? ⟨b, j, none⟩).isSome = true) (hfz : ∀ j, j < (n + 1) * 2 → w.frozen? ⟨b, j, none⟩ = false)
    (hvs : ∀ j v, vs[j]? = some v → w.cell? ⟨vb, j, none⟩ = some v) (h1c : ∀ v ∈ cs, v.oneCell' = true) (h1v : ∀ v ∈ vs, v.oneCell' = true)
    (tA tB : TypeId) (kA kB : Nat) (hsa : w.shape? vb = some (tA, kA)) (hsb : w.shape? b = some (tB, kB)) (hkB : kB ≠ 0) (hfa : w.frozen? ⟨vb, 0, none⟩ = false) (hfe : w.frozen? ⟨vb, kA, none⟩ = false) :
    Calls Tryz.prog 84 #[.slice (some ⟨b, 0, none⟩) n c, .int .i64 i, .slice (some ⟨vb, 0, none⟩) 1 1] w fun e w' =>
      e = .returned (.slice (some ⟨b, 0, none⟩) (n + 1) c) ∧ w' = (w.drew.setCells b ((i + 1) * 2) (cs.drop (i * 2))).setCells b (i * 2) vs := by
  have hz2 : ¬ ((i : Int) = (n : Int)) := by omega
  have hov : ∀ lb cb, (callFunc 119 #[.slice (some ⟨vb, 0, none⟩) 1 1, .slice (some ⟨b, (i + 1) * 2, none⟩) lb cb]).run Tryz.prog w = .ok (.value (.bool false)) w := fun lb cb => by
    rw [run_callFunc_extern Tryz.func119 (by kernel_rfl) (by kernel_rfl) (by kernel_rfl) (e := Extern.SlicesOverlaps.overlaps #[105, 105] #[4]) (by kernel_rfl),
      Lib.run_overlaps_apart w 105 4 116 Tryz.underlying105 2 (fun _ => by kernel_rfl) ⟨vb, 0, none⟩ ⟨b, (i + 1) * 2, none⟩ 1 1 lb cb hvb tA tB kA kB hsa hsb hkB hfa hfe]
    rfl
  have hdl : (cs.drop (i * 2)).length = (n - i) * 2 := by rw [List.length_drop, hcl]; omega
  have hw1 : IntKind.i64.wrap ((i : Int) + 1) = (i : Int) + 1 := by rw [IntKind.wrap_i64]; omega
  have hb1 : (0 : Int) ≤ (i : Int) + 1 := by omega
  have hin : i ≤ n := by omega
  have htn : ((i : Int) + 1).toNat = i + 1 := by omega
  have hb2 : ¬ (c = i + 1) := by omega
  have hb3 : (i : Int) ≤ (n : Int) + 1 := by omega
  have hb4 : ¬ (c = i) := by omega
  have hb5 : decide ((c : Int) < (n : Int) + 1) = false := by simp; omega
  have hcp1 : ∀ ty dc sc, (Builtin.copy_ #[105, 105] ty #[.slice (some ⟨b, (i + 1) * 2, none⟩) (n + 1 - (i + 1)) dc, .slice (some ⟨b, i * 2, none⟩) (n + 1 - i) sc]).run Tryz.prog w.drew = .ok (goInt ((n - i : Nat) : Int)) (w.drew.setCells b ((i + 1) * 2) (cs.drop (i * 2))) := fun ty dc sc =>
    run_copy2 w.drew _ _ ty 116 b ((i + 1) * 2) (n + 1 - (i + 1)) dc ⟨b, i * 2, none⟩ (n + 1 - i) sc (n - i) (cs.drop (i * 2)) Tryz.underlying105 attr_size (by simp only [Nat.min_def]; split <;> omega) hdl
      (fun j v hj => by rw [Addr.add_lit]; exact hcs (i * 2 + j) v (by rwa [List.getElem?_drop] at hj))
      (fun j hj => hsp _ (by omega)) (fun j hj => hfz _ (by omega)) (fun v hv => h1c v (List.mem_of_mem_drop hv))
  obtain ⟨W1, hW1⟩ : ∃ W1, W1 = w.drew.setCells b ((i + 1) * 2) (cs.drop (i * 2)) := ⟨_, rfl⟩
  have hsp1 : ∀ k, k < (n + 1) * 2 → (W1.cell? ⟨b, k, none⟩).isSome = true := fun k hk => by
    rw [hW1]
    exact isSome_setCells b (cs.drop (i * 2)) ((i + 1) * 2) w.drew (fun j hj => hsp _ (by omega)) _ (hsp k hk)
  have hcp2 : ∀ (W : World), (∀ x, W.cell? x = W1.cell? x) → (∀ x, W.frozen? x = W1.frozen? x) → ∀ ty dc, (Builtin.copy_ #[105, 105] ty #[.slice (some ⟨b, i * 2, none⟩) (n + 1 - i) dc, .slice (some ⟨vb, 0, none⟩) 1 1]).run Tryz.prog W = .ok (goInt 1) (W.setCells b (i * 2) vs) := fun W hWc hWf ty dc =>
    run_copy2 W _ _ ty 116 b (i * 2) (n + 1 - i) dc ⟨vb, 0, none⟩ 1 1 1 vs Tryz.underlying105 attr_size (by simp only [Nat.min_def]; split <;> omega) (by omega)
      (fun j v hj => by
        rw [Addr.add_lit, hWc, hW1, World.cell?_setCells_out b _ _ _ _ (fun h _ => absurd h hvb), Nat.zero_add]
        exact hvs j v hj)
      (fun j hj => by rw [hWc]; exact hsp1 _ (by omega)) (fun j hj => by rw [hWf, hW1, World.frozen?_setCells]; exact hfz _ (by omega)) h1v
  rw [← hW1] at hcp1
  have mixed : Tryz.prog.follows .mixedOrders = true := by kernel_rfl
  go_enter Tryz.func84, Tryz.ntmps84
  go_wp2_with (simp only [hov])
  go_region_law_o (refine step_copy_runI rfl _ _ 105 105 rfl (.slice (some ⟨b, (i + 1) * 2, none⟩) (n + 1 - (i + 1)) (c - (i + 1))) (.slice (some ⟨b, i * 2, none⟩) (n + 1 - i) (c - i)) (by simp [Act.eval, Act.put]) (by simp [Act.eval, Act.put]) (hcp1 3 (c - (i + 1)) (c - i)) ?_)
  go_wp2_with (at_builtin; refine wpList_copy_runI _ rfl _ _ 105 105 rfl _ _ rfl rfl (hcp2 _ (fun _ => rfl) (fun _ => rfl) _ _) ?_)
  go_ret
  first | exact ⟨rfl, rfl⟩ | exact ⟨rfl, by rw [hW1]⟩
end Go.Proofs.YtomnkglnbmnmpaaGreatDoor
namespace Go.Proofs.YtomnkglnbmnmpaaGreatDoor
open Go.RowKit Go.Vt Go.Proofs
/-- clear, at rows of two cells. -/
theorem run_clear2 {P : Program} (w : World) (t e ty : TypeId) (z u : Value) (ht : P.underlying t = some (.slice e)) (hv : ∀ w, (zeroValue e).run P w = .ok z w) (hz : z.cells = #[u, u]) (h1 : u.oneCell' = true) (b o n c : Nat) (hn : 0 < n)
    (hc : ∀ j, j < n * 2 → (w.cell? ⟨b, o + j, none⟩).isSome = true) (hf : ∀ j, j < n * 2 → w.frozen? ⟨b, o + j, none⟩ = false) :
    (Builtin.clear_ #[t] ty #[.slice (some ⟨b, o, none⟩) n c]).run P w = .ok (.tuple #[]) (w.setCells b o (List.replicate (n * 2) u)) := by
  have hzc : (Builtin.zeroCells z.cells n).toList = List.replicate (n * 2) u := by
    rw [hz]
    apply List.ext_getElem
    · rw [Array.length_toList, size_zeroCells]; simp
    · intro i h1 h2
      rw [List.getElem_replicate]
      have : i % 2 = 0 ∨ i % 2 = 1 := by omega
      rcases this with h | h <;> simp [Builtin.zeroCells, h]
  have hst := run_storeCells_cells (P := P) b o (List.replicate (n * 2) u) 0 w (by simpa using hc) (by simpa using hf) (by intro v hv'; rw [List.eq_of_mem_replicate hv']; exact h1)
  simp only [Nat.add_zero] at hst
  obtain ⟨m, rfl⟩ : ∃ m, n = m + 1 := ⟨n - 1, by omega⟩
  simp [Builtin.clear_, run_underlying ht, hv, hzc, hst]
/-- What is left of a list of attributes of one's own without its i-th. -/
def AttOnly (g : Nat) (w w' : World) : Prop := OnlyAt g w w' ∧ ∀ k n c, TxtAt w 116 k n c → TxtAt w' 116 k n c
set_option maxHeartbeats 4000000 in
set_option maxRecDepth 100000 in
/-- slices.Delete at attributes of one's own: one of them. -/
theorem delete_atts (w : World) (g l c i : Nat) (hg : TxtAt w 116 g (l * 2) (c * 2)) (hi : i < l) (hl : l ≤ 1099511627776) :
    Calls Tryz.prog 85 #[.slice (some ⟨g, 0, none⟩) l c, .int .i64 i, .int .i64 ((i : Int) + 1)] w fun e w' => e = .returned (.slice (some ⟨g, 0, none⟩) (l - 1) c) ∧ TxtAt w' 116 g ((l - 1) * 2) (c * 2) ∧ (Below g w w' ∧ ∀ k, k ≠ g → w'.heap[k]? = w.heap[k]?) ∧ ∀ k n c, TxtAt w 116 k n c → TxtAt w' 116 k n c := by
  obtain ⟨i0, hi0, hz0, hzs, hzb⟩ := info_parts zinfo116
  obtain ⟨cs, c1, c2, c3⟩ := hg.list
  have hcap := hg.cap_le
  have hmax : c ≤ maxLen := by omega
  simp only [maxLen] at hmax
  have mixed : Tryz.prog.follows .mixedOrders = true := by kernel_rfl
  have hsome : ∀ j, j < c * 2 → (w.cell? ⟨g, j, none⟩).isSome = true := fun j hj => by obtain ⟨x, h⟩ := hg.some_cell hj; rw [h]; rfl
  have hfz : ∀ j, w.frozen? ⟨g, j, none⟩ = false := fun j => hg.frozen j
  have hw1 : IntKind.i64.wrap ((i : Int) + 1) = (i : Int) + 1 := by rw [IntKind.wrap_i64]; omega
  have hb1 : (0 : Int) ≤ (i : Int) + 1 := by omega
  have htn : ((i : Int) + 1).toNat = i + 1 := by omega
  have hb2 : (i : Int) ≤ (i : Int) + 1 := by omega
  have hb3 : (i : Int) + 1 ≤ (l : Int) := by omega
  have hb4 : l ≤ c := by omega
  have hb5 : ((i : Int) == (i : Int) + 1) = false := by simp; omega
  have hb6 : ¬ ((i : Int) = (i : Int) + 1) := by omega
  have hci : ¬ (c = i) := by omega
  obtain ⟨r, rfl⟩ : ∃ r, l = i + 1 + r := ⟨l - (i + 1), by omega⟩
  have hsub : i + 1 + r - (i + 1) = r := by omega
  have hsub2 : i + 1 + r - (i + r) = 1 := by omega
  have hdl : (cs.drop ((i + 1) * 2)).length = r * 2 := by rw [List.length_drop, c1]; omega
  have hb7 : (i : Int) + 1 ≤ (i : Int) + 1 + (r : Int) := by omega
  have hic : i ≤ c := by omega
  have hic1 : i + 1 ≤ c := by omega
  have hic2 : i + r ≤ c := by omega
  have hic3 : i + 1 + r ≤ c := by omega
  have hcir : ¬ (c = i + r) := by omega
  have hw2 : ((i : Int) + (r : Int)) ≤ (i : Int) + 1 + (r : Int) := by omega
  obtain ⟨W1, hW1⟩ : ∃ W1, W1 = w.drew.setCells g (i * 2) (cs.drop ((i + 1) * 2)) := ⟨_, rfl⟩
  have tx1 : ∀ k n c, TxtAt w 116 k n c → TxtAt W1 116 k n c := fun k n c h => by
    rw [hW1]
    by_cases e : k = g
    · subst e; exact TxtAt.sets _ _ (fun v hv => c3 v (List.mem_of_mem_drop hv)) h.drew
    · exact h.keep (setCells_far g k e _ _ w.drew)
  have b1 : Below g w W1 := by rw [hW1]; exact (below_drew (Below.refl g w)).trans (Lib.below_setCells_w (Nat.le_refl _) _ _ w.drew)
  have o1 : ∀ k, k ≠ g → W1.heap[k]? = w.heap[k]? := fun k e => by rw [hW1]; exact setCells_far g k e _ _ w.drew
  have hg1 := tx1 g _ _ hg
  have hcl : ∀ (W : World), (∀ x, W.cell? x = W1.cell? x) → (∀ x, W.frozen? x = W1.frozen? x) → ∀ ty cc, (Builtin.clear_ #[105] ty #[.slice (some ⟨g, (i + r) * 2, none⟩) 1 cc]).run Tryz.prog W = .ok (.tuple #[]) (W.setCells g ((i + r) * 2) [.string ⟨#[]⟩, .string ⟨#[]⟩]) := fun W h1 h2 ty cc =>
    run_clear2 W 105 116 ty (.agg #[.string ⟨#[]⟩, .string ⟨#[]⟩]) (.string ⟨#[]⟩) Tryz.underlying105 (fun W => by kernel_rfl) rfl rfl g ((i + r) * 2) 1 cc (by omega) (fun j hj => by rw [h1]; obtain ⟨x, h⟩ := hg1.some_cell (show (i + r) * 2 + j < c * 2 by omega); rw [h]; rfl) (fun j hj => by rw [h2]; exact hg1.frozen _)
  have fin : TxtAt (W1.setCells g ((i + r) * 2) [.string ⟨#[]⟩, .string ⟨#[]⟩]) 116 g ((i + 1 + r - 1) * 2) (c * 2) ∧ (Below g w (W1.setCells g ((i + r) * 2) [.string ⟨#[]⟩, .string ⟨#[]⟩]) ∧ ∀ k, k ≠ g → (W1.setCells g ((i + r) * 2) [.string ⟨#[]⟩, .string ⟨#[]⟩]).heap[k]? = w.heap[k]?) ∧ ∀ k n c, TxtAt w 116 k n c → TxtAt (W1.setCells g ((i + r) * 2) [.string ⟨#[]⟩, .string ⟨#[]⟩]) 116 k n c := by
    have ht : ∀ v ∈ [Value.string ⟨#[]⟩, Value.string ⟨#[]⟩], IsTxt v := fun v hv => by
      simp only [List.mem_cons, List.not_mem_nil, or_false, or_self] at hv
      rw [hv]; exact ⟨_, rfl, by decide⟩
    have h2 : ∀ k n c, TxtAt w 116 k n c → TxtAt (W1.setCells g ((i + r) * 2) [.string ⟨#[]⟩, .string ⟨#[]⟩]) 116 k n c := fun k n c h => by
      by_cases e : k = g
      · subst e; exact TxtAt.sets _ _ ht (tx1 _ _ _ h)
      · exact (tx1 k n c h).keep (setCells_far g k e _ _ W1)
    exact ⟨(h2 g _ _ hg).le (by omega), ⟨b1.trans (Lib.below_setCells_w (Nat.le_refl _) _ _ W1), fun k e => (setCells_far g k e _ _ W1).trans (o1 k e)⟩, h2⟩
  have HF := Lib.hid fin
  clear fin tx1 b1 o1 hg1 hg
  by_cases hce : c = i + 1
  · obtain rfl : r = 0 := by omega
    subst hce
    go_enter Tryz.func85, Tryz.ntmps85
    go_wp2_with fail
    have hd0 : cs.drop ((i + 1) * 2) = [] := List.length_eq_zero_iff.1 (by omega)
    go_region_law_o (refine step_append_room rfl _ _ 105 rfl 116 i0 2 Tryz.underlying105 hi0 hzs g 0 i (i + 1) (by simp [Act.eval, Act.put]) ⟨g, 0, none⟩ 0 0 [] (by simp [Act.eval, Act.put]) (by simp) (by simp) (by simp) (by omega) (by simp) ?_)
    have hW1' : W1 = w.drew.setCells g (i * 2) [] := by rw [hW1, hd0]
    have hclW := hcl W1 (fun _ => rfl) (fun _ => rfl)
    simp only [Nat.add_zero] at hclW HF
    rw [hW1'] at hclW HF
    go_wp2_with fail
    go_ret
    obtain ⟨f1, f2, f3⟩ := HF.out
    exact ⟨rfl, f1, f2, f3⟩
  · go_enter Tryz.func85, Tryz.ntmps85
    go_wp2_with fail
    go_region_law_o (refine step_append_room rfl _ _ 105 rfl 116 i0 2 Tryz.underlying105 hi0 hzs g 0 i c (by simp [Act.eval, Act.put]) ⟨g, (i + 1) * 2, none⟩ r (c - (i + 1)) (cs.drop ((i + 1) * 2)) (by simp [Act.eval, Act.put]) hdl (fun j v hj => by rw [Addr.add_lit]; exact c2 _ v (by rwa [List.getElem?_drop] at hj)) (fun v hv => txt_one c3 v (List.mem_of_mem_drop hv)) (by omega) (fun j hj => ⟨by rw [Nat.zero_add]; exact hsome _ (by omega), hfz _⟩) ?_)
    rw [← hW1]
    have hclW := hcl W1 (fun _ => rfl) (fun _ => rfl)
    go_wp2_with fail
    go_ret
    obtain ⟨f1, f2, f3⟩ := HF.out
    rw [hW1] at f1 f2 f3
    refine ⟨?_, f1, f2, f3⟩
    rw [show i + 1 + r - 1 = i + r from by omega]
    first | rfl | skip
end Go.Proofs.YtomnkglnbmnmpaaGreatDoor
namespace Go.Proofs.YtomnkglnbmnmpaaGreatDoor
open Go.RowKit Go.Vt Go.Proofs
theorem zero_txts (n : Nat) : ∀ j, j < n * 2 → (Builtin.zeroCells #[Value.string ⟨#[]⟩, Value.string ⟨#[]⟩] n)[j]? = some (Value.string ⟨#[]⟩) := fun j hj => by
  have hs : (Builtin.zeroCells #[Value.string ⟨#[]⟩, Value.string ⟨#[]⟩] n).size = n * 2 := by rw [size_zeroCells]; simp
  rw [Array.getElem?_eq_getElem (by omega)]
  have : j % 2 = 0 ∨ j % 2 = 1 := by omega
  rcases this with h | h <;> simp [Builtin.zeroCells, h]
/-- A new block of texts, then zeros. -/
theorem txts_new (w : World) (cs : List Value) (n cap : Nat) (hc : cs.length = n * 2) (hn : n ≤ cap) (hm : cap ≤ maxLen) (hi : ∀ v ∈ cs, IsTxt v) :
    TxtAt (w.alloc (.cells (cs.toArray ++ Builtin.zeroCells #[Value.string ⟨#[]⟩, Value.string ⟨#[]⟩] (cap - n)) 116)) 116 w.heap.size (n * 2) (cap * 2) := by
  have hs : (cs.toArray ++ Builtin.zeroCells #[Value.string ⟨#[]⟩, Value.string ⟨#[]⟩] (cap - n)).size = cap * 2 := by
    rw [Array.size_append, size_zeroCells]; simp [hc]; omega
  have := TxtAt.new w (cs.toArray ++ Builtin.zeroCells #[Value.string ⟨#[]⟩, Value.string ⟨#[]⟩] (cap - n)) 116 (n * 2) (by omega) (by omega) (fun j hj => by
    obtain ⟨z, h1, h2⟩ := hi cs[j] (List.getElem_mem (by omega))
    exact ⟨z, by rw [Array.getElem?_append_left (by simp; omega), List.getElem?_toArray, List.getElem?_eq_getElem (by omega), h1], h2⟩)
  rwa [hs] at this
set_option maxHeartbeats 1000000 in
/-- An attribute is put into a list of attributes of one's own. -/
theorem insert_atts (w : World) (v : Value) (B l c q i : Nat) (nm : ByteArray) (hv : (v = .slice none 0 0 ∧ l = 0 ∧ c = 0) ∨ ∃ g, v = .slice (some ⟨g, 0, none⟩) l c ∧ B ≤ g ∧ g ≠ q ∧ TxtAt w 116 g (l * 2) (c * 2)) (hi : i ≤ l) (hB : B ≤ w.heap.size)
    (hq : w.heap[q]? = some (.cells #[.string nm, .string ⟨#[]⟩] 116 (0, 0))) (hn : nm.size ≤ strMax) (hl : l ≤ 1099511627776) :
    Calls Tryz.prog 84 #[v, .int .i64 i, .slice (some ⟨q, 0, none⟩) 1 1] w fun e w' => ∃ g c', e = .returned (.slice (some ⟨g, 0, none⟩) (l + 1) c') ∧ B ≤ g ∧ TxtAt w' 116 g ((l + 1) * 2) (c' * 2) ∧ Below B w w' ∧ (∀ k n c, TxtAt w 116 k n c → TxtAt w' 116 k n c) ∧ (∀ k, k < w.heap.size → v ≠ .slice (some ⟨k, 0, none⟩) l c → w'.heap[k]? = w.heap[k]?) := by
  have hvs : ∀ j u, [Value.string nm, Value.string ⟨#[]⟩][j]? = some u → w.cell? ⟨q, j, none⟩ = some u := fun j u hu => by
    rw [cell_of_row _ _ j _ _ _ hq]; simpa using hu
  have hqi : ∀ v ∈ [Value.string nm, Value.string ⟨#[]⟩], IsTxt v := fun v hv => by
    simp only [List.mem_cons, List.not_mem_nil, or_false] at hv
    rcases hv with rfl | rfl
    · exact ⟨_, rfl, hn⟩
    · exact ⟨_, rfl, by decide⟩
  have h1v : ∀ v ∈ [Value.string nm, Value.string ⟨#[]⟩], v.oneCell' = true := txt_one hqi
  rcases hv with ⟨rfl, rfl, rfl⟩ | ⟨g, rfl, hg, hgq, hI⟩
  · obtain rfl : i = 0 := by omega
    refine (insA_end_grow none 0 0 q [] [.string nm, .string ⟨#[]⟩] w (by omega) (by omega) (by omega) rfl rfl (fun _ => rfl) (fun a h => by cases h) hvs h1v).mono ?_
    rintro e w' ⟨rfl, rfl⟩
    have hn := txts_new w.drew [.string nm, .string ⟨#[]⟩] 1 (grownCap w (0 + 1) 0 116) rfl (grownCap_ge _ _ _ _) (grownCap_le_maxLen _ _ _ _ (by decide)) hqi
    exact ⟨w.heap.size, _, rfl, hB, hn, (below_drew (Below.refl B w)).alloc hB _, fun k _ _ hi => hi.keep (Below.heap_alloc w.drew _ _ hi.lt), fun k hk _ => Below.heap_alloc w.drew _ _ hk⟩
  · obtain ⟨cs, c1, c2, c3⟩ := hI.list
    have hlt := hI.lt
    have hcap := hI.cap_le
    have hkeep : ∀ (vs : List Value) (o : Nat) (W : World) (k : Nat), k ≠ g → (W.setCells g o vs).heap[k]? = W.heap[k]? := fun vs o W k hk => setCells_far g k hk vs o W
    have ne : ∀ k, Value.slice (some ⟨g, 0, none⟩) l c ≠ .slice (some ⟨k, 0, none⟩) l c → k ≠ g := fun k h e => h (by rw [e])
    have c2' : ∀ a, some (⟨g, 0, none⟩ : Addr) = some a → ∀ j v, cs[j]? = some v → w.cell? (a.add j) = some v := fun a h j v hj => by
      injection h with h; subst h; rw [Addr.add_lit, Nat.zero_add]; exact c2 j v hj
    by_cases he : i = l
    · subst he
      by_cases hr : c < i + 1
      · refine (insA_end_grow (some ⟨g, 0, none⟩) i c q cs [.string nm, .string ⟨#[]⟩] w (by omega) hr hl c1 rfl (fun h => by cases h) c2' hvs h1v).mono ?_
        rintro e w' ⟨rfl, rfl⟩
        have hn := txts_new w.drew (cs ++ [.string nm, .string ⟨#[]⟩]) (i + 1) (grownCap w (i + 1) c 116) (by rw [List.length_append, c1]; simp; omega) (grownCap_ge _ _ _ _) (grownCap_le_maxLen _ _ _ _ (by simp only [maxLen]; omega)) (fun v hv => by rcases List.mem_append.1 hv with h | h; exact c3 v h; exact hqi v h)
        exact ⟨w.heap.size, _, rfl, hB, hn, (below_drew (Below.refl B w)).alloc hB _, fun k _ _ hi => hi.keep (Below.heap_alloc w.drew _ _ hi.lt), fun k hk _ => Below.heap_alloc w.drew _ _ hk⟩
      · refine (insA_end_room g i c q [.string nm, .string ⟨#[]⟩] w (by omega) (by have := hcap.2; simp only [maxLen] at this; omega) rfl (fun j hj => by obtain ⟨x, h⟩ := hI.some_cell (show i * 2 + j < c * 2 by omega); rw [h]; rfl) (fun j _ => hI.frozen _) hvs h1v).mono ?_
        rintro e w' ⟨rfl, rfl⟩
        have hn := TxtAt.cover [.string nm, .string ⟨#[]⟩] (i * 2) (i * 2) w hqi hI (Nat.le_refl _) (by simp; omega)
        rw [show max (i * 2) (i * 2 + [Value.string nm, Value.string ⟨#[]⟩].length) = (i + 1) * 2 from by simp; omega] at hn
        exact ⟨g, c, rfl, hg, hn, Lib.below_setCells_w hg _ _ _, fun k _ _ hi => by
          by_cases e : k = g
          · subst e; exact TxtAt.sets _ _ hqi hi
          · exact hi.keep (hkeep _ _ _ _ e), fun k _ hk => hkeep _ _ _ _ (ne k hk)⟩
    · by_cases hr : c < l + 1
      · refine (insA_grow g l c i q cs [.string nm, .string ⟨#[]⟩] w (by omega) (by omega) hr hl c1 rfl c2 hvs (txt_one c3) h1v).mono ?_
        rintro e w' ⟨rfl, rfl⟩
        have hge : l + 1 ≤ grownCap w (l + 1) c 116 := grownCap_ge _ _ _ _
        have hmx : grownCap w (l + 1) c 116 ≤ maxLen := grownCap_le_maxLen _ _ _ _ (by simp only [maxLen]; omega)
        generalize grownCap w (l + 1) c 116 = G at hge hmx ⊢
        have hs : ((cs.take (i * 2)).toArray ++ Builtin.zeroCells #[Value.string ⟨#[]⟩, Value.string ⟨#[]⟩] (l + 1 - i) ++ Builtin.zeroCells #[Value.string ⟨#[]⟩, Value.string ⟨#[]⟩] (G - (l + 1))).size = G * 2 := by
          rw [Array.size_append, Array.size_append, size_zeroCells, size_zeroCells]; simp [c1]; omega
        have h0 := TxtAt.new w ((cs.take (i * 2)).toArray ++ Builtin.zeroCells #[Value.string ⟨#[]⟩, Value.string ⟨#[]⟩] (l + 1 - i) ++ Builtin.zeroCells #[Value.string ⟨#[]⟩, Value.string ⟨#[]⟩] (G - (l + 1))) 116 (i * 2) (by rw [hs]; omega) (by rw [hs]; omega) (fun j hj => by
          obtain ⟨z, h1, h2⟩ := c3 ((cs.take (i * 2))[j]'(by rw [List.length_take]; omega)) (List.mem_of_mem_take (List.getElem_mem _))
          refine ⟨z, ?_, h2⟩
          rw [Array.getElem?_append_left (by rw [Array.size_append]; simp [c1]; omega), Array.getElem?_append_left (by simp [c1]; omega), List.getElem?_toArray, List.getElem?_eq_getElem (by rw [List.length_take]; omega), h1])
        rw [hs] at h0
        have h1 := TxtAt.cover [.string nm, .string ⟨#[]⟩] (i * 2) (i * 2) _ hqi h0.drew (Nat.le_refl _) (by simp; omega)
        rw [show max (i * 2) (i * 2 + [Value.string nm, Value.string ⟨#[]⟩].length) = (i + 1) * 2 from by simp; omega] at h1
        have h2 := TxtAt.cover (cs.drop (i * 2)) ((i + 1) * 2) ((i + 1) * 2) _ (fun v hv => c3 v (List.mem_of_mem_drop hv)) h1.drew (Nat.le_refl _) (by rw [List.length_drop, c1]; omega)
        rw [List.length_drop, c1, show max ((i + 1) * 2) ((i + 1) * 2 + (l * 2 - i * 2)) = (l + 1) * 2 from by omega] at h2
        have kp : ∀ k, k < w.heap.size → _ := fun k hk => (setCells_far w.heap.size k (by omega) (cs.drop (i * 2)) ((i + 1) * 2) (((w.alloc (.cells ((cs.take (i * 2)).toArray ++ Builtin.zeroCells #[Value.string ⟨#[]⟩, Value.string ⟨#[]⟩] (l + 1 - i) ++ Builtin.zeroCells #[Value.string ⟨#[]⟩, Value.string ⟨#[]⟩] (G - (l + 1))) 116)).drew.setCells w.heap.size (i * 2) [.string nm, .string ⟨#[]⟩]).drew)).trans ((setCells_far _ k (by omega) _ _ (World.drew _)).trans (Below.heap_alloc w _ _ hk))
        refine ⟨w.heap.size, _, rfl, hB, h2, ?_, fun k _ _ hi => hi.keep (kp k hi.lt), fun k hk _ => kp k hk⟩
        exact (below_drew ((below_drew ((Below.refl B w).alloc hB _)).trans (Lib.below_setCells_w hB _ _ _))).trans (Lib.below_setCells_w hB _ _ _)
      · refine (insA_shift g l c i q cs [.string nm, .string ⟨#[]⟩] w (by omega) (by omega) (by have := hcap.2; simp only [maxLen] at this; omega) (fun e => hgq e.symm) c1 rfl c2 (fun j hj => by obtain ⟨x, h⟩ := hI.some_cell (show j < c * 2 by omega); rw [h]; rfl) (fun j _ => hI.frozen _) hvs (txt_one c3) h1v
          116 116 2 (c * 2) (by simp [World.shape?, hq]) hI.shape (by omega) (by simp [World.frozen?, hq]) (by simp [World.frozen?, hq])).mono ?_
        rintro e w' ⟨rfl, rfl⟩
        have hn1 := TxtAt.cover (cs.drop (i * 2)) (l * 2) ((i + 1) * 2) w.drew (fun v hv => c3 v (List.mem_of_mem_drop hv)) hI (by omega) (by rw [List.length_drop, c1]; omega)
        rw [List.length_drop, c1, show max (l * 2) ((i + 1) * 2 + (l * 2 - i * 2)) = (l + 1) * 2 from by omega] at hn1
        have hn2 := TxtAt.cover [.string nm, .string ⟨#[]⟩] ((l + 1) * 2) (i * 2) _ hqi hn1 (by omega) (by simp; omega)
        rw [show max ((l + 1) * 2) (i * 2 + [Value.string nm, Value.string ⟨#[]⟩].length) = (l + 1) * 2 from by simp; omega] at hn2
        exact ⟨g, c, rfl, hg, hn2, ((below_drew (Below.refl B w)).trans (Lib.below_setCells_w hg _ _ w.drew)).trans (Lib.below_setCells_w hg _ _ _), fun k _ _ hi => by
          by_cases e : k = g
          · subst e; exact TxtAt.sets _ _ hqi (TxtAt.sets _ _ (fun v hv => c3 v (List.mem_of_mem_drop hv)) hi.drew)
          · exact hi.keep ((hkeep _ _ _ _ e).trans (hkeep _ _ w.drew _ e)), fun k _ hk => (hkeep _ _ _ _ (ne k hk)).trans (hkeep _ _ w.drew _ (ne k hk))⟩
end Go.Proofs.YtomnkglnbmnmpaaGreatDoor
namespace Go.Proofs.YtomnkglnbmnmpaaGreatDoor
open Go.RowKit Go.Vt Go.Proofs
theorem zinfo9 : (Tryz.prog.info? 9).map (fun i => (i.zero, i.size, i.bytes)) = some (some (.string ⟨#[]⟩), 1, 16) := by kernel_rfl
/-- A space. -/
def spaceB (c : Int) : Bool := decide (c = 9) || decide (c = 10) || decide (c = 12) || decide (c = 13) || decide (c = 32)
set_option maxRecDepth 100000 in
theorem space_ok (c : Int) (w : World) : Calls Tryz.prog 121 #[.int .u8 c] w fun e w' => e = .returned (.bool (spaceB c)) ∧ w' = w := by
  go_enter Tryz.func121, Tryz.ntmps121
  go_wp2
  all_goals (go_ret; refine ⟨ret_bool ?_, rfl⟩; simp only [spaceB]; rw [Bool.eq_iff_iff]; simp <;> omega)
set_option maxRecDepth 100000 in
set_option maxHeartbeats 1000000 in
/-- attrs.words: texts in new memory. -/
theorem words_ok (s : ByteArray) (w : World) (hs : s.size ≤ strMax) : Calls Tryz.prog 86 #[.string s] w fun e w' => (∃ v xs, e = .returned v ∧ w'.ownsRow w.heap.size 9 1 v xs.length xs ∧ (∀ u ∈ xs, IsTxt u) ∧ xs.length ≤ s.size) ∧ Below w.heap.size w w' := by
  obtain ⟨i0, hi0, hz0, hz1, hz2⟩ := info_parts zinfo9
  have hm : s.size ≤ 4398046511104 := hs
  have HSP := Lib.hid space_ok
  go_enter Tryz.func86, Tryz.ntmps86
  go_wp2_with fail
  go_step3
  go_wp2_with fail
  go_step3
  go_wp2_with fail
  go_loopw [3, 4] (fun x3 x4 wr => ∃ (at_ : Nat) (xs : List Value), at_ ≤ s.size ∧ x4 = .int .i64 at_ ∧ xs.length ≤ at_ ∧ (∀ u ∈ xs, IsTxt u) ∧ wr.ownsRow w.heap.size 9 1 x3 xs.length xs ∧ Below w.heap.size w wr) (fun _ x4 _ => s.size - (intOf x4).toNat)
  case atStart => exact ⟨0, [], by omega, rfl, by simp, by simp, ⟨by simp, .inl ⟨rfl, rfl⟩⟩, Below.refl _ _⟩
  case round =>
    obtain ⟨at_, xs, ha, rfl, hxa, hxs, hO, hB⟩ := hrel
    obtain ⟨aG, cG, rfl⟩ := own_slice hO
    have HK := Lib.hid (And.intro hxs (And.intro hO hB))
    by_cases hlt : at_ < s.size
    case neg =>
      obtain rfl : at_ = s.size := by omega
      clear hxs hO hB
      go_wp2_with fail
      rw [Exit.noGoto_ret]
      go_ret
      obtain ⟨hxs, hO, hB⟩ := HK.out
      exact ⟨⟨_, xs, rfl, hO, hxs, hxa⟩, hB⟩
    case pos =>
      clear hxs hO hB
      go_wp2_with fail
      refine (HSP.out _ _).mono ?_
      rintro e w1 ⟨rfl, hw⟩
      rw [hw]
      clear hw
      cases hsp : spaceB (s[at_].toNat : Int) with
      | true =>
        go_wp2_with fail
        obtain ⟨hxs, hO, hB⟩ := HK.out
        exact ⟨⟨at_ + 1, xs, by omega, by go_num, by omega, hxs, hO, hB⟩, by simp [intOf]; omega⟩
      | false =>
        go_wp2_with fail
        obtain ⟨wo, hwo⟩ : ∃ wo, wo = wr := ⟨wr, rfl⟩
        subst hwo
        go_loopw [5] (fun x5 wr => ∃ en : Nat, at_ ≤ en ∧ en ≤ s.size ∧ x5 = .int .i64 en ∧ wr = wo) (fun x5 _ => s.size - (intOf x5).toNat)
        case atStart => exact ⟨at_, by omega, by omega, rfl, rfl⟩
        case round =>
          obtain ⟨en, h1, h2, rfl, hw⟩ := hrel
          rw [hw]
          by_cases hlt2 : en < s.size
          case pos =>
            go_wp2_with fail
            refine (HSP.out _ _).mono ?_
            rintro e w1 ⟨rfl, hw1⟩
            rw [hw1]
            clear hw1
            cases hsp2 : spaceB (s[en].toNat : Int) with
            | false =>
              go_wp2_with fail
              exact ⟨⟨en + 1, by omega, by omega, by go_num, by first | trivial | rfl⟩, by simp [intOf]; omega⟩
            | true =>
              have hne : at_ < en := by
                rcases Nat.lt_or_eq_of_le h1 with h | h
                · exact h
                · subst h; rw [hsp] at hsp2; cases hsp2
              go_wp2_with fail
              obtain ⟨wd, hwd⟩ : ∃ wd, wd = s.extract at_ en := ⟨_, rfl⟩
              have hwds : wd.size ≤ strMax := by rw [hwd, ByteArray.size_extract]; simp only [strMax]; omega
              rw [← hwd]
              clear hwd
              go_loopw [41] (fun x41 wr => ∃ j : Nat, j ≤ xs.length ∧ x41 = .int .i64 j ∧ wr = wo) (fun x41 _ => xs.length - (intOf x41).toNat)
              case atStart => exact ⟨0, by omega, rfl, rfl⟩
              case round =>
                obtain ⟨j, hj, rfl, hw⟩ := hrel
                rw [hw]
                clear hw
                by_cases hjl : j < xs.length
                case pos =>
                  obtain ⟨hxs, hO, hB⟩ := HK.out
                  obtain ⟨u, hu, _⟩ := hxs xs[j] (List.getElem_mem hjl)
                  obtain ⟨g, rfl⟩ : ∃ g, aG = some ⟨g, 0, none⟩ := by
                    rcases hO.2 with ⟨_, h⟩ | ⟨g, cap', cur, h, _⟩
                    · omega
                    · injection h with h; exact ⟨g, h⟩
                  have cj : wo.cell? ⟨g, j, none⟩ = some (.string u) := by
                    rw [hO.cellAt j (by omega), List.getElem?_eq_getElem hjl, hu]
                  clear hxs hO hB hu
                  cases he1 : (u.toList == wd.toList) with
                  | true =>
                    go_wp2_with fail
                    obtain ⟨hxs, hO, hB⟩ := HK.out
                    exact ⟨⟨en, xs, by omega, by go_num, by omega, hxs, hO, hB⟩, by simp [intOf]; omega⟩
                  | false =>
                    go_wp2_with fail
                    exact ⟨⟨j + 1, by omega, by go_num, by first | trivial | rfl⟩, by simp [intOf]; omega⟩
                case neg =>
                  obtain rfl : j = xs.length := by omega
                  obtain ⟨hxs, hO, hB⟩ := HK.out
                  have hpush : ∀ (X : Obj) (w5 : World), (wo.alloc X).grownBy w5 (Value.slice aG xs.length cG).ownBlock → Below w.heap.size w w5 := fun X w5 hg =>
                    (hB.alloc hB.size X).grown hg (by rw [alloc_size]; have := hB.size; omega) (fun k hk => own_ge hO k hk)
                  have hsz := hB.size
                  have HPU := Lib.hid hpush
                  have HXS := Lib.hid hxs
                  clear hpush hB hxs
                  go_wp2_with (at_builtin; go_must (refine wpList_append_lies _ rfl _ _ 55 rfl w.heap.size 9 i0 _ 1 16 Tryz.underlying55 hi0 hz0 hz1 hz2 rfl (by decide) (.slice aG xs.length cG) xs.length xs rfl (hO.alloc _) _ 1 1 [.string wd] rfl rfl (World.news_of_block (heap_alloc_new wo _)) (by simp [Value.oneCell']) (by decide) (by simp [maxLen]; omega) (by omega) (by rw [alloc_size]; omega) _ rfl ?_; intro g5 cp w5 ho hg hor hlt5; have hbx := HPU.out _ w5 hg))
                  refine ⟨⟨en, xs ++ [.string wd], by omega, by go_num, by simp; omega, fun v hv => ?_, by simpa using ho, hbx⟩, by simp [intOf]; omega⟩
                  rcases List.mem_append.1 hv with hv | hv
                  · exact HXS.out v hv
                  · obtain rfl := List.mem_singleton.1 hv; exact ⟨wd, rfl, hwds⟩
          case neg =>
            have hne : at_ < en := by omega
            obtain rfl : en = s.size := by omega
            go_wp2_with fail
            obtain ⟨wd, hwd⟩ : ∃ wd, wd = s.extract at_ s.size := ⟨_, rfl⟩
            have hwds : wd.size ≤ strMax := by rw [hwd, ByteArray.size_extract]; simp only [strMax]; omega
            rw [← hwd]
            clear hwd
            go_loopw [41] (fun x41 wr => ∃ j : Nat, j ≤ xs.length ∧ x41 = .int .i64 j ∧ wr = wo) (fun x41 _ => xs.length - (intOf x41).toNat)
            case atStart => exact ⟨0, by omega, rfl, rfl⟩
            case round =>
              obtain ⟨j, hj, rfl, hw⟩ := hrel
              rw [hw]
              clear hw
              by_cases hjl : j < xs.length
              case pos =>
                obtain ⟨hxs, hO, hB⟩ := HK.out
                obtain ⟨u, hu, _⟩ := hxs xs[j] (List.getElem_mem hjl)
                obtain ⟨g, rfl⟩ : ∃ g, aG = some ⟨g, 0, none⟩ := by
                  rcases hO.2 with ⟨_, h⟩ | ⟨g, cap', cur, h, _⟩
                  · omega
                  · injection h with h; exact ⟨g, h⟩
                have cj : wo.cell? ⟨g, j, none⟩ = some (.string u) := by
                  rw [hO.cellAt j (by omega), List.getElem?_eq_getElem hjl, hu]
                clear hxs hO hB hu
                cases he1 : (u.toList == wd.toList) with
                | true =>
                  go_wp2_with fail
                  obtain ⟨hxs, hO, hB⟩ := HK.out
                  exact ⟨⟨s.size, xs, by omega, by go_num, by omega, hxs, hO, hB⟩, by simp [intOf]; omega⟩
                | false =>
                  go_wp2_with fail
                  exact ⟨⟨j + 1, by omega, by go_num, by first | trivial | rfl⟩, by simp [intOf]; omega⟩
              case neg =>
                obtain rfl : j = xs.length := by omega
                obtain ⟨hxs, hO, hB⟩ := HK.out
                have hpush : ∀ (X : Obj) (w5 : World), (wo.alloc X).grownBy w5 (Value.slice aG xs.length cG).ownBlock → Below w.heap.size w w5 := fun X w5 hg =>
                  (hB.alloc hB.size X).grown hg (by rw [alloc_size]; have := hB.size; omega) (fun k hk => own_ge hO k hk)
                have hsz := hB.size
                have HPU := Lib.hid hpush
                have HXS := Lib.hid hxs
                clear hpush hB hxs
                go_wp2_with (at_builtin; go_must (refine wpList_append_lies _ rfl _ _ 55 rfl w.heap.size 9 i0 _ 1 16 Tryz.underlying55 hi0 hz0 hz1 hz2 rfl (by decide) (.slice aG xs.length cG) xs.length xs rfl (hO.alloc _) _ 1 1 [.string wd] rfl rfl (World.news_of_block (heap_alloc_new wo _)) (by simp [Value.oneCell']) (by decide) (by simp [maxLen]; omega) (by omega) (by rw [alloc_size]; omega) _ rfl ?_; intro g5 cp w5 ho hg hor hlt5; have hbx := HPU.out _ w5 hg))
                refine ⟨⟨s.size, xs ++ [.string wd], by omega, by go_num, by simp; omega, fun v hv => ?_, by simpa using ho, hbx⟩, by simp [intOf]; omega⟩
                rcases List.mem_append.1 hv with hv | hv
                · exact HXS.out v hv
                · obtain rfl := List.mem_singleton.1 hv; exact ⟨wd, rfl, hwds⟩
end Go.Proofs.YtomnkglnbmnmpaaGreatDoor
namespace Go.Proofs.YtomnkglnbmnmpaaGreatDoor
open Go.RowKit Go.Vt Go.Proofs
set_option maxRecDepth 100000 in
/-- attrs.Words. -/
theorem wordsq_ok (s : ByteArray) (w : World) (hs : s.size ≤ strMax) : Calls Tryz.prog 33 #[.string s] w fun e w' => (∃ v n xs, e = .returned (.tuple #[v, .int .i64 n]) ∧ w'.ownsRow w.heap.size 9 1 v xs.length xs ∧ (∀ u ∈ xs, IsTxt u) ∧ xs.length ≤ 400) ∧ Below w.heap.size w w' := by
  have hw := words_ok s w hs
  have HW := Lib.hid hw
  clear hw
  go_enter Tryz.func33, Tryz.ntmps33
  by_cases hl : 400 < s.size
  · have hl2 : (400 : Int) < (s.size : Int) := by omega
    go_wp2_with fail
    go_ret2
    exact ⟨⟨_, 28, [], rfl, ⟨by simp, .inl ⟨rfl, rfl⟩⟩, by simp, by simp⟩, Below.refl _ _⟩
  · have hl2 : decide ((400 : Int) < (s.size : Int)) = false := by simp; omega
    go_wp2_with fail
    refine HW.out.mono ?_
    rintro e w1 ⟨⟨v, xs, rfl, ho, hx, hn⟩, hb⟩
    have HO := Lib.hid (And.intro ho (And.intro hx hb))
    clear ho hx hb
    go_wp2_with fail
    go_ret2
    obtain ⟨ho, hx, hb⟩ := HO.out
    exact ⟨⟨v, 0, xs, rfl, ho, hx, by omega⟩, hb⟩
set_option maxRecDepth 100000 in
theorem index_str (w : World) (B : Nat) (v : Value) (x : ByteArray) (xs : List Value) (hO : w.ownsRow B 9 1 v xs.length xs) (hx : ∀ u ∈ xs, IsTxt u) (hl : xs.length ≤ 4398046511104) :
    Calls Tryz.prog 122 #[v, .string x] w fun e w' => (∃ n : Int, e = .returned (.int .i64 n)) ∧ w' = w := by
  obtain ⟨aG, cG, rfl⟩ := own_slice hO
  have HO := Lib.hid (And.intro hO hx)
  clear hO hx
  go_enter Tryz.func122, Tryz.ntmps122
  go_wp2
  go_loopw [8] (fun x8 wr => ∃ i : Nat, i ≤ xs.length ∧ x8 = .int .i64 i ∧ wr = w) (fun x8 _ => xs.length - (intOf x8).toNat)
  case atStart => exact ⟨0, by omega, rfl, rfl⟩
  case round =>
    obtain ⟨j, hj, rfl, hw⟩ := hrel
    rw [hw]
    clear hw
    by_cases hjl : j < xs.length
    · obtain ⟨hO, hxs⟩ := HO.out
      obtain ⟨u, hu, _⟩ := hxs xs[j] (List.getElem_mem hjl)
      obtain ⟨g, rfl⟩ : ∃ g, aG = some ⟨g, 0, none⟩ := by
        rcases hO.2 with ⟨_, h⟩ | ⟨g, cap', cur, h, _⟩
        · omega
        · injection h with h; exact ⟨g, h⟩
      have cj : w.cell? ⟨g, j, none⟩ = some (.string u) := by
        rw [hO.cellAt j (by omega), List.getElem?_eq_getElem hjl, hu]
      clear hxs hO hu
      cases he1 : (x.toList == u.toList) <;> cases he2 : (u.toList == x.toList)
      all_goals
        go_wp2
        first
          | (go_ret; exact ⟨⟨_, rfl⟩, rfl⟩)
          | (go_roundw
             case rel => exact ⟨j + 1, by omega, by go_num, by first | trivial | rfl⟩
             case measure => simp [intOf]; omega)
    · obtain rfl : j = xs.length := by omega
      go_wp2
      go_ret
      exact ⟨⟨_, rfl⟩, rfl⟩
set_option maxRecDepth 100000 in
theorem contains_str (w : World) (B : Nat) (v : Value) (x : ByteArray) (xs : List Value) (hO : w.ownsRow B 9 1 v xs.length xs) (hx : ∀ u ∈ xs, IsTxt u) (hl : xs.length ≤ 4398046511104) :
    Calls Tryz.prog 88 #[v, .string x] w fun e w' => IsBool e ∧ w' = w := by
  have hc := Lib.hid (index_str w B v x xs hO hx hl)
  obtain ⟨aG, cG, rfl⟩ := own_slice hO
  clear hO hx
  go_enter Tryz.func88, Tryz.ntmps88
  go_wp2_with fail
  refine hc.out.mono ?_
  rintro e w2 ⟨⟨n, rfl⟩, rfl⟩
  go_wp2
  go_ret
  exact ⟨⟨_, rfl⟩, rfl⟩
set_option maxRecDepth 100000 in
set_option maxHeartbeats 1000000 in
/-- attrs.Class. -/
theorem class_ok (F : Nat → Prop) (w : World) (a : Option Addr) (x : Int) (nm : ByteArray) (len cap : Nat) (rows : List (List C)) (hr : Rd F w (.sl 4 len cap rows) (.slice a len cap)) (ht : HtRows tab [.str, .sl 116, .int .i64, .sl 3] rows) (hF : ∀ k, F k → k < w.heap.size) (hnn : nodesRows rows ≤ 1099511627776) :
    Calls Tryz.prog 37 #[.agg #[.slice a len cap], .int .i64 x, .string nm] w fun e w' => (∃ (q : Bool) (n : Int), e = .returned (.tuple #[.bool q, .int .i64 n])) ∧ Below w.heap.size w w' := by
  obtain ⟨a0, b, o, ha0, h2, h3⟩ := row_at hr hF
  obtain rfl : a = a0 := by injection ha0 with ha0
  obtain ⟨W, hW⟩ : ∃ W, W = w.alloc (Obj.cells #[.slice a len cap] 24) := ⟨_, rfl⟩
  have hb : Below w.heap.size w W := by rw [hW]; exact (Below.refl _ _).alloc (Nat.le_refl _) _
  have s1 : W.heap.size = w.heap.size + 1 := by rw [hW, alloc_size]
  have x1 : W.heap[w.heap.size]? = some (.cells #[.slice a len cap] 24 (0, 0)) := by rw [hW]; exact heap_alloc_new w _
  have hc := acheck_ok F W a x len cap rows (Rd.mono (fun k hk => ⟨hk, hb.block k (hF k hk)⟩) _ _ hr) ht (fun k hk => Nat.lt_of_lt_of_le (hF k hk) hb.size) hnn
  have c0 : W.cell? ⟨w.heap.size, 0, none⟩ = some (.slice a len cap) := cell_of_row _ _ 0 _ _ _ x1
  have H3 := Lib.hid h3
  clear h3
  have HC := Lib.hid hc
  have HW := Lib.hid hW
  have HB := Lib.hid hb
  have HR := Lib.hid hr
  have HF := Lib.hid hF
  have HT := Lib.hid ht
  have HX := Lib.hid (And.intro x1 s1)
  clear hc hW hb hr ht hF x1 s1
  go_enter Tryz.func37, Tryz.ntmps37
  go_wp2_with fail
  rw [← HW.out]
  go_wp2_with fail
  refine HC.out.mono ?_
  rintro e w1 ⟨⟨n, rfl, hn⟩, hb1⟩
  have HN := Lib.hid hn
  have hb2 := HB.out.trans (hb1.mono HB.out.size)
  have x2 : w1.heap[w.heap.size]? = some (.cells #[.slice a len cap] 24 (0, 0)) := (hb1.block _ (by have := HX.out.2; omega)).trans HX.out.1
  have c1 : w1.cell? ⟨w.heap.size, 0, none⟩ = some (.slice a len cap) := cell_of_row _ _ 0 _ _ _ x2
  have s2 : w.heap.size + 1 ≤ w1.heap.size := by have := HX.out.2; have := hb1.size; omega
  have HB2 := Lib.hid hb2
  have HX2 := Lib.hid x2
  clear hn hb1 hb2 c0 x2
  by_cases hn0 : n = 0
  case neg =>
    have hn1 : (n != 0) = true := by simp [hn0]
    go_wp2_with fail
    go_ret2
    exact ⟨⟨_, n, rfl⟩, HB2.out⟩
  case pos =>
    subst hn0
    obtain ⟨hG, hx1, hx2⟩ := HN.out (by first | trivial | rfl)
    obtain ⟨xn, rfl⟩ := Int.eq_ofNat_of_zero_le hx1
    have HG := Lib.hid hG
    have hrk : rows[xn]? = some (rows[xn]'(by omega)) := List.getElem?_eq_getElem _
    generalize rows[xn]'(by omega) = rk at hrk
    obtain ⟨rfl, _, hbl, hrd⟩ := H3.out xn rk hrk
    obtain ⟨_, at_, lat, kat, ats, _, _, _, _, _, rfl, hra, hta, _, _, _, n1, _, _⟩ := node_at hrk HT.out hrd
    have q1 := (HB2.out.cell (p := ⟨b, o + xn * 4 + 1, none⟩) hbl).trans n1
    have hla := attrs_le hrk hra hnn
    have hf := find_ok F w1 (.slice at_ lat kat) ⟨#[99, 108, 97, 115, 115]⟩ lat kat ats (Rd.mono (fun k hk => ⟨hk, HB2.out.block k (HF.out k hk)⟩) _ _ hra) hta (fun k hk => Nat.lt_of_lt_of_le (HF.out k hk) HB2.out.size) hla
    have HFD := Lib.hid hf
    have HRA := Lib.hid (And.intro hra hta)
    clear hf hG hrk hrd hra hta n1
    go_wp2_with fail
    refine HFD.out.mono ?_
    rintro e w2 ⟨⟨k, fd, rfl, hk1, hk2⟩, hb3⟩
    have hb4 := HB2.out.trans (hb3.mono HB2.out.size)
    have q2 := (hb3.cell (p := ⟨b, o + xn * 4 + 1, none⟩) (by have := HB2.out.size; show b < w1.heap.size; omega)).trans q1
    have c2 : w2.cell? ⟨w.heap.size, 0, none⟩ = some (.slice (some ⟨b, o, none⟩) len cap) := (hb3.cell (by show w.heap.size < w1.heap.size; omega)).trans c1
    have HB4 := Lib.hid hb4
    clear hb3 hb4 q1 c1
    cases fd with
    | false =>
      go_wp2_with fail
      go_ret2
      exact ⟨⟨_, _, rfl⟩, HB4.out⟩
    | true =>
      have hkl : k < lat := hk2 (by first | trivial | rfl)
      obtain ⟨hra, hta⟩ := HRA.out
      obtain ⟨a1, b1, o1, ha1, h5, h6⟩ := row_at hra HF.out
      obtain rfl : at_ = a1 := by injection ha1 with ha1
      have hrj : ats[k]? = some (ats[k]'(by omega)) := List.getElem?_eq_getElem _
      generalize ats[k]'(by omega) = rj at hrj
      obtain ⟨rfl, _, hbl1, hrd⟩ := h6 k rj hrj
      obtain ⟨c0, cs0, rfl, k0, t1⟩ := (ht_at _ _ _ hta hrj).cons
      obtain ⟨c1', cs1, rfl, k1, t2⟩ := t1.cons
      obtain rfl := t2.nil
      obtain ⟨s1, rfl⟩ := ht_str k0
      obtain ⟨s2, rfl⟩ := ht_str k1
      simp only [RdRow, Rd, and_true, exists_eq_right] at hrd
      have q3 := (HB4.out.cell (p := ⟨b1, o1 + k * 2 + 1, none⟩) hbl1).trans hrd.2
      have hs2 : s2.size ≤ strMax := by simp only [Ht] at k1; exact k1.2
      have hw := words_ok s2 w2 hs2
      have HWD := Lib.hid hw
      have hs2' : s2.size ≤ 4398046511104 := hs2
      clear hra hta h6 hrd k0 k1 t1 t2 ha1 hw
      go_wp2_with fail
      refine HWD.out.mono ?_
      rintro e w3 ⟨⟨v, xs, rfl, ho, hx, hn⟩, hb5⟩
      have hb6 := HB4.out.trans (hb5.mono HB4.out.size)
      have hct := contains_str w3 _ v nm xs ho hx (by omega)
      have HCT := Lib.hid hct
      have HB6 := Lib.hid hb6
      clear hb5 hb6 ho hx hct q2 q3 c2
      go_wp2_with fail
      refine HCT.out.mono ?_
      rintro e w4 ⟨⟨q, rfl⟩, hw⟩
      rw [hw]
      clear hw
      go_wp2_with fail
      go_ret2
      exact ⟨⟨_, _, rfl⟩, HB6.out⟩
end Go.Proofs.YtomnkglnbmnmpaaGreatDoor
