/- slices.Insert of one task into a row of the call's own, where it has no room; all ways together. -/
import Derived.Test.YthppgaglmgnocaaKP2
namespace Go.Proofs.Ythppgaglmgnocaa
set_option linter.unusedVariables false
set_option linter.unusedSimpArgs false
open Go.RowKit Go.Lib

set_option maxRecDepth 100000 in
set_option maxHeartbeats 4000000 in
theorem insert_grow (base g c j gv : Nat) (L : List TaskD) (x : TaskD) (cur : Array Value) (w : World) (hj : j < L.length) (hl : L.length ≤ 1000) (hlc : L.length ≤ c) (hroom : c < L.length + 1)
    (hg : w.heap[g]? = some (.cells cur 31 (0, 0))) (hsz : cur.size = c * 3) (ht : cur.toList.take (L.length * 3) = L.flatMap encTask) (hbase : base ≤ w.heap.size)
    (hv : w.heap[gv]? = some (.cells #[.int .i64 x.Id, .int .i64 x.Rank, .int .i64 x.Age] 31 (0, 0))) :
    Calls Try.prog 46 #[.slice (some ⟨g, 0, none⟩) L.length c, .int .i64 (j : Int), .slice (some ⟨gv, 0, none⟩) 1 1] w (Inserted base (insT L j x) w) := by
  have hinfo : (Try.prog.info? 31).map (·.size) = some 3 := by kernel_rfl
  obtain ⟨TI, hTI, hTz, hTs, hTb⟩ := info_parts (P := Try.prog) (e := 31) (z := .agg #[.int .i64 0, .int .i64 0, .int .i64 0]) (size := 3) (bytes := 24) (by kernel_rfl)
  have e1 : ((j : Int) == (L.length : Int)) = false := by rw [beq_eq_false_iff_ne]; omega
  have e2 : (j == L.length) = false := by rw [beq_eq_false_iff_ne]; omega
  have e3 : (c : Int) < (L.length : Int) + 1 := by omega
  have e4 : IntKind.i64.wrap ((j : Int) + 1) = (j : Int) + 1 := IntWalk.i64_in _ (by omega)
  have e5 : (0 : Int) ≤ (j : Int) + 1 := by omega
  have e6 : ((j : Int) + 1).toNat = j + 1 := by omega
  have e8 : ¬ (c = j) := by omega
  have e9 : (j : Int) ≤ (L.length : Int) := by omega
  have e11 : j ≤ L.length := by omega
  have hl0 : (L.flatMap encTask).length = L.length * 3 := flat_len (k := 3) (enc := encTask) (fun _ => rfl) L
  have hla : ((L.take j).flatMap encTask).length = j * 3 := by rw [flat_len (k := 3) (enc := encTask) (fun _ => rfl), List.length_take]; omega
  have hlb : ((L.drop j).flatMap encTask).length = (L.length - j) * 3 := by rw [flat_len (k := 3) (enc := encTask) (fun _ => rfl), List.length_drop]
  have hab : (L.take j).flatMap encTask ++ (L.drop j).flatMap encTask = L.flatMap encTask := by rw [← List.flatMap_append, List.take_append_drop]
  have o1 : ∀ v ∈ (L.drop j).flatMap encTask, v.oneCell' = true := fun v hv' => by
    obtain ⟨t, _, ht'⟩ := List.mem_flatMap.1 hv'
    exact oneTask t v ht'
  have mixed : Try.prog.follows Departure.mixedOrders = true := by kernel_rfl
  have hglt : g < w.heap.size := (Array.getElem?_eq_some_iff.1 hg).1
  have hvlt : gv < w.heap.size := (Array.getElem?_eq_some_iff.1 hv).1
  have rd : ∀ q v, (L.flatMap encTask)[q]? = some v → cur[q]? = some v := fun q v hq => by
    have := (List.getElem?_eq_some_iff.1 hq).1
    rw [← Array.getElem?_toList, ← hq, ← ht, List.getElem?_take, if_pos (by omega)]
  have hold : (Builtin.firstCells TI.size j (.slice (some ⟨g, 0, none⟩) j c)).run Try.prog w.drew = .ok ((L.take j).flatMap encTask).toArray w.drew := by
    rw [hTs]
    exact run_firstCells_some w.drew 3 j ⟨g, 0, none⟩ j c ((L.take j).flatMap encTask) hla (fun q v hq => by
      rw [Addr.add_lit]
      show w.cell? _ = _
      rw [cell_of_row w g _ _ _ _ hg, Nat.zero_add]
      exact rd q v (by rw [← hab, List.getElem?_append_left (List.getElem?_eq_some_iff.1 hq).1]; exact hq))
  obtain ⟨G, hG⟩ : ∃ G, G = grownCap w (L.length + 1) c 31 := ⟨_, rfl⟩
  obtain ⟨R, hR⟩ : ∃ R : List Value, R = (L.take j).flatMap encTask ++ ((Builtin.zeroCells (Value.agg #[.int .i64 0, .int .i64 0, .int .i64 0]).cells (L.length + 1 - j)).toList ++ (Builtin.zeroCells (Value.agg #[.int .i64 0, .int .i64 0, .int .i64 0]).cells (G - (L.length + 1))).toList) := ⟨_, rfl⟩
  have hGn : L.length + 1 ≤ G := by rw [hG]; exact grownCap_ge w _ _ _
  have hGm : G ≤ maxLen := by rw [hG]; exact grownCap_le_maxLen w _ _ _ (by simp only [maxLen]; omega)
  have hRl : R.length = G * 3 := by
    rw [hR]
    simp only [List.length_append, Array.length_toList, size_zeroCells, hla]
    show j * 3 + ((L.length + 1 - j) * 3 + (G - (L.length + 1)) * 3) = G * 3
    omega
  have hkk : (L.length : Int) + 1 - (j : Int) = ((L.length + 1 - j : Nat) : Int) := by omega
  have hrz : ∀ ty, (Builtin.append_ #[23, 3] ty #[.slice (some ⟨g, 0, none⟩) j c, .int .i64 ((L.length : Int) + 1 - (j : Int))]).run Try.prog w = .ok (.slice (some ⟨w.heap.size, 0, none⟩) (L.length + 1) G) (w.drew.alloc (.cells R.toArray 31)) := fun ty => by
    have hik : j + (L.length + 1 - j) = L.length + 1 := by omega
    have h := Lib.run_append_grow_zeros (P := Try.prog) w 23 3 ty 31 TI _ .i64 .i64 Try.underlying23 Try.underlying3 hTI hTz (some ⟨g, 0, none⟩) j c ((L.take j).flatMap encTask) hold (L.length + 1 - j) (by omega) (by rw [hTs]; omega) (by omega) (by omega) (by rw [hTb]; omega) (by rw [hTb, hik]; exact growslice_fits hroom (by omega))
    rw [hik, ← hG] at h
    have hRA : ((L.take j).flatMap encTask).toArray ++ Builtin.zeroCells (Value.agg #[.int .i64 0, .int .i64 0, .int .i64 0]).cells (L.length + 1 - j) ++ Builtin.zeroCells (Value.agg #[.int .i64 0, .int .i64 0, .int .i64 0]).cells (G - (L.length + 1)) = R.toArray := by
      rw [hR]
      apply Array.ext'
      simp only [Array.toList_append, List.append_assoc]
    rw [hRA] at h
    rw [hkk, h]
  have hRj : R.take ((L.take j).flatMap encTask).length = (L.take j).flatMap encTask := by rw [hR, List.take_left]
  have hroomR : ((L.take j).flatMap encTask).length + (encTask x).length + ((L.drop j).flatMap encTask).length ≤ R.length := by
    rw [hla, hlb, hRl]; show j * 3 + 3 + _ ≤ _; omega
  have fin := ins_new R ((L.take j).flatMap encTask) ((L.drop j).flatMap encTask) (encTask x) hRj hroomR
  obtain ⟨C1, hC1⟩ : ∃ C1 : List Value, C1 = R.take ((L.take j).flatMap encTask).length ++ encTask x ++ R.drop (((L.take j).flatMap encTask).length + (encTask x).length) := ⟨_, rfl⟩
  obtain ⟨C2, hC2⟩ : ∃ C2 : List Value, C2 = C1.take (((L.take j).flatMap encTask).length + (encTask x).length) ++ (L.drop j).flatMap encTask ++ C1.drop (((L.take j).flatMap encTask).length + (encTask x).length + ((L.drop j).flatMap encTask).length) := ⟨_, rfl⟩
  have hC1l : C1.length = R.length := by rw [hC1]; simp only [List.length_append, List.length_take, List.length_drop]; omega
  rw [← hC1, ← hC2] at fin
  have hcpA : ∀ (W : World) ty dc, W.heap[w.heap.size]? = some (.cells R.toArray 31 (0, 0)) → W.heap[gv]? = some (.cells #[.int .i64 x.Id, .int .i64 x.Rank, .int .i64 x.Age] 31 (0, 0)) →
      (Builtin.copy_ #[23, 23] ty #[.slice (some ⟨w.heap.size, j * 3, none⟩) (L.length + 1 - j) dc, .slice (some ⟨gv, 0, none⟩) 1 1]).run Try.prog W = .ok (goInt 1) (W.setRow w.heap.size C1.toArray) := fun W ty dc hW hWv => by
    have := run_copy_rowK (P := Try.prog) 3 W 23 23 ty 31 w.heap.size (j * 3) (L.length + 1 - j) dc ⟨gv, 0, none⟩ 1 1 R.toArray 31 (encTask x) 1 Try.underlying23 hinfo hW (by simp only [Nat.min_def]; split <;> omega) rfl
      (fun q v hq => by
        rw [Addr.add_lit, cell_of_row _ gv _ _ _ _ hWv]
        simpa [encTask] using hq) (by show j * 3 + 3 ≤ _; rw [List.size_toArray, hRl]; omega) (oneTask x)
    rw [this]
    congr 3
    rw [hC1, hla]
  have hcpB : ∀ (W : World) ty dc sc, W.heap[w.heap.size]? = some (.cells C1.toArray 31 (0, 0)) → W.heap[g]? = some (.cells cur 31 (0, 0)) →
      (Builtin.copy_ #[23, 23] ty #[.slice (some ⟨w.heap.size, (j + 1) * 3, none⟩) (L.length - j) dc, .slice (some ⟨g, j * 3, none⟩) (L.length - j) sc]).run Try.prog W = .ok (goInt ((L.length - j : Nat) : Int)) (W.setRow w.heap.size C2.toArray) := fun W ty dc sc hW hWg => by
    have := run_copy_rowK (P := Try.prog) 3 W 23 23 ty 31 w.heap.size ((j + 1) * 3) (L.length - j) dc ⟨g, j * 3, none⟩ (L.length - j) sc C1.toArray 31 ((L.drop j).flatMap encTask) (L.length - j) Try.underlying23 hinfo hW (Nat.min_self _) hlb
      (fun q v hq => by
        rw [Addr.add_lit, cell_of_row W g _ _ _ _ hWg]
        refine rd _ v ?_
        rw [← hab, List.getElem?_append_right (by rw [hla]; omega), hla, ← hq]
        congr 1
        omega) (by rw [hlb, List.size_toArray, hC1l, hRl]; omega) o1
    rw [this]
    congr 3
    rw [hC2, hla, hlb]
    have e : j * 3 + (encTask x).length = (j + 1) * 3 := by show j * 3 + 3 = _; omega
    rw [e]
  have hW : Aside (∀ W : World, W.heap[w.heap.size]? = some (.cells C2.toArray 31 (0, 0)) → Below base w W → Inserted base (insT L j x) w (.returned (.slice (some ⟨w.heap.size, 0, none⟩) (L.length + 1) G)) W) := fun W h1 h2 => by
    refine ⟨_, _, _, rfl, (insT_len (by omega)).symm, hGn, hGm, ownA_row h1 hbase ?_, h2⟩
    rw [insT_len (by omega), insT_flat, ← fin, List.toList_toArray]
    congr 1
    rw [hla, hlb]
    show _ = j * 3 + 3 + _
    omega
  obtain ⟨W1, hW1⟩ : ∃ W1, W1 = w.drew.alloc (.cells R.toArray 31) := ⟨_, rfl⟩
  have p1 : W1.heap[w.heap.size]? = some (.cells R.toArray 31 (0, 0)) := by rw [hW1]; exact heap_alloc_new w.drew _
  have p2 : W1.heap[gv]? = some (.cells #[.int .i64 x.Id, .int .i64 x.Rank, .int .i64 x.Age] 31 (0, 0)) := by rw [hW1]; exact (heap_alloc_old w.drew _ hvlt).trans hv
  have p3 : W1.heap[g]? = some (.cells cur 31 (0, 0)) := by rw [hW1]; exact (heap_alloc_old w.drew _ hglt).trans hg
  have p4 : Below base w W1 := by rw [hW1]; exact (Below.refl _ _).drew.alloc hbase _
  rw [← hW1] at hrz
  have q1 : (W1.setRow w.heap.size C1.toArray).heap[w.heap.size]? = some (.cells C1.toArray 31 (0, 0)) := setRow_heap W1 _ _ _ _ _ p1
  have q2 : (W1.setRow w.heap.size C1.toArray).heap[g]? = some (.cells cur 31 (0, 0)) := (setRow_other W1 w.heap.size g _ (by omega)).trans p3
  have q3 : Below base w (W1.setRow w.heap.size C1.toArray) := below_setRow p4 hbase _
  obtain ⟨W2, hW2⟩ : ∃ W2, W2 = W1.setRow w.heap.size C1.toArray := ⟨_, rfl⟩
  have A1 : ∀ ty dc, (Builtin.copy_ #[23, 23] ty #[.slice (some ⟨w.heap.size, j * 3, none⟩) (L.length + 1 - j) dc, .slice (some ⟨gv, 0, none⟩) 1 1]).run Try.prog W1 = .ok (goInt 1) W2 := fun ty dc => by rw [hW2]; exact hcpA W1 ty dc p1 p2
  rw [← hW2] at q1 q2 q3
  have A2 : ∀ ty dc sc, (Builtin.copy_ #[23, 23] ty #[.slice (some ⟨w.heap.size, (j + 1) * 3, none⟩) (L.length - j) dc, .slice (some ⟨g, j * 3, none⟩) (L.length - j) sc]).run Try.prog W2.drew = .ok (goInt ((L.length - j : Nat) : Int)) (W2.drew.setRow w.heap.size C2.toArray) := fun ty dc sc => hcpB W2.drew ty dc sc q1 q2
  have FIN : Aside (Inserted base (insT L j x) w (.returned (.slice (some ⟨w.heap.size, 0, none⟩) (L.length + 1) G)) (W2.drew.setRow w.heap.size C2.toArray)) := hW (W2.drew.setRow w.heap.size C2.toArray) (setRow_heap W2.drew _ _ _ _ _ q1) (below_setRow q3.drew hbase _)
  have f1 : ¬ G = j := by omega
  have f2 : ¬ G = j + 1 := by omega
  have f3 : (j : Int) ≤ (L.length : Int) + 1 := by omega
  have f4 : j ≤ L.length + 1 := by omega
  clear hg ht hv hsz hinfo hTI hTz hTs hTb hl0 hla hlb hab o1 rd hold hR hRl hkk hRj hroomR fin hC1 hC2 hC1l hcpA hcpB hW hW1 hW2 p1 p2 p3 p4 q1 q2 q3 hG hglt hvlt
  go_enter Try.func46, Try.ntmps46
  go_wp2_with (first
    | (at_builtin; refine Lib.wpList_append_run _ rfl _ _ _ _ rfl _ _ rfl rfl _ _ (hrz _) ?_)
    | (at_builtin; refine wpList_copy_runK _ rfl _ _ 23 23 rfl _ _ rfl rfl (A1 _ _) ?_))
  go_region_law_o (refine step_copy_runK rfl _ _ 23 23 rfl _ _ (by simp [Act.eval, Act.put]) (by simp [Act.eval, Act.put]) (A2 _ _ _) ?_)
  go_wp2
  go_ret
  exact FIN
end Go.Proofs.Ythppgaglmgnocaa
