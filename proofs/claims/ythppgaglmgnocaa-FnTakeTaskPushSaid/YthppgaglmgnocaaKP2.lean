/- slices.Insert of one task into a row of the call's own: the walks. -/
import Derived.Test.YthppgaglmgnocaaKP1
namespace Go.Proofs.Ythppgaglmgnocaa
set_option linter.unusedVariables false
set_option linter.unusedSimpArgs false
open Go.RowKit Go.Lib

theorem arr_blk {w : World} {gv : Nat} {x : TaskD} (hv : w.heap[gv]? = some (.cells #[.int .i64 x.Id, .int .i64 x.Rank, .int .i64 x.Age] 31 (0, 0))) : Arr w w.heap.size 3 encTask (some ⟨gv, 0, none⟩) [x] := fun _ => by
  refine ⟨gv, 0, rfl, (Array.getElem?_eq_some_iff.1 hv).1, fun i y hy j v hj => ?_⟩
  cases i with
  | zero =>
    simp at hy
    subst hy
    rw [cell_of_row w gv _ _ _ _ hv]
    simpa [encTask] using hj
  | succ i => simp at hy

set_option maxHeartbeats 1000000 in
theorem insert_end (base : Nat) (A : Option Addr) (L : List TaskD) (c gv : Nat) (x : TaskD) (w : World) (own : w.ownsRow base 31 3 (.slice A L.length c) L.length (L.flatMap encTask)) (hl : L.length ≤ 1000) (hbase : base ≤ w.heap.size)
    (hv : w.heap[gv]? = some (.cells #[.int .i64 x.Id, .int .i64 x.Rank, .int .i64 x.Age] 31 (0, 0))) :
    Calls Try.prog 46 #[.slice A L.length c, .int .i64 (L.length : Int), .slice (some ⟨gv, 0, none⟩) 1 1] w (Inserted base (insT L L.length x) w) := by
  have HA := hid (arr_blk hv)
  obtain ⟨hle, hmax⟩ := slice_le own
  have OWN := hid own
  clear own hv
  go_enter Try.func46, Try.ntmps46
  go_wp2_with (at_builtin; refine wpList_append_arr _ eltTaskK rfl _ _ rfl base _ L.length (L.length + 1) _ rfl OWN.out encTask (fun _ => rfl) oneTask _ _ [x] 1 1 rfl rfl HA.out rfl (by omega) hbase ?_; intro A' c' w' own' gr' at')
  all_goals
    go_ret
    refine ⟨A', L.length + 1, c', rfl, (insT_len (Nat.le_refl _)).symm, (slice_le own').1, (slice_le own').2, OwnA.of_rowN (fun _ => rfl) (insT_len (Nat.le_refl _)).symm ?_ own', (Below.refl _ _).grown gr' hbase (fun q hq => (OWN.out.lt q hq).1)⟩
    rw [insT_flat]
    simp

set_option maxRecDepth 100000 in
set_option maxHeartbeats 4000000 in
theorem insert_room (base g c j gv : Nat) (L : List TaskD) (x : TaskD) (cur : Array Value) (w : World) (hj : j < L.length) (hl : L.length ≤ 1000) (hroom : L.length + 1 ≤ c) (hc : c ≤ maxLen)
    (hg : w.heap[g]? = some (.cells cur 31 (0, 0))) (hsz : cur.size = c * 3) (ht : cur.toList.take (L.length * 3) = L.flatMap encTask) (hb : base ≤ g)
    (hv : w.heap[gv]? = some (.cells #[.int .i64 x.Id, .int .i64 x.Rank, .int .i64 x.Age] 31 (0, 0))) (hne : gv ≠ g) :
    Calls Try.prog 46 #[.slice (some ⟨g, 0, none⟩) L.length c, .int .i64 (j : Int), .slice (some ⟨gv, 0, none⟩) 1 1] w (Inserted base (insT L j x) w) := by
  unfold maxLen at hc
  have hinfo : (Try.prog.info? 31).map (·.size) = some 3 := by kernel_rfl
  obtain ⟨TI, hTI⟩ : ∃ i, Try.prog.info? 31 = some i := by
    cases h : Try.prog.info? 31 with
    | none => rw [h] at hinfo; cases hinfo
    | some i => exact ⟨i, rfl⟩
  have hT3 : TI.size = 3 := by rw [hTI] at hinfo; simpa using hinfo
  have hov : ∀ lb cb, (callFunc 58 #[.slice (some ⟨gv, 0, none⟩) 1 1, .slice (some ⟨g, (j + 1) * 3, none⟩) lb cb]).run Try.prog w = .ok (.value (.bool false)) w := fun lb cb => by
    rw [run_callFunc_extern Try.func58 (by kernel_rfl) (by kernel_rfl) (by kernel_rfl) (e := Extern.SlicesOverlaps.overlaps #[23, 23] #[4]) (by kernel_rfl),
      Lib.run_overlaps_apart w 23 4 31 Try.underlying23 3 (fun W => by simp [sizeOf, typeInfo, hTI, hT3]) ⟨gv, 0, none⟩ ⟨g, (j + 1) * 3, none⟩ 1 1 lb cb hne 31 31 3 (c * 3) (by simp [World.shape?, hv]) (by simp [World.shape?, hg, hsz]) (by omega) (frozen_of_row w gv _ _ _ hv) (frozen_of_row w gv _ _ _ hv)]
    rfl
  have e1 : ((j : Int) == (L.length : Int)) = false := by rw [beq_eq_false_iff_ne]; omega
  have e2 : (j == L.length) = false := by rw [beq_eq_false_iff_ne]; omega
  have e3 : ¬ ((c : Int) < (L.length : Int) + 1) := by omega
  have e4 : IntKind.i64.wrap ((j : Int) + 1) = (j : Int) + 1 := IntWalk.i64_in _ (by omega)
  have e5 : (0 : Int) ≤ (j : Int) + 1 := by omega
  have e6 : ((j : Int) + 1).toNat = j + 1 := by omega
  have e7 : ¬ (c = j + 1) := by omega
  have e8 : ¬ (c = j) := by omega
  have e9 : (j : Int) ≤ (L.length : Int) + 1 := by omega
  have e10 : j ≤ L.length + 1 := by omega
  have e11 : j ≤ L.length := by omega
  have hl0 : (L.flatMap encTask).length = L.length * 3 := flat_len (k := 3) (enc := encTask) (fun _ => rfl) L
  have hla : ((L.take j).flatMap encTask).length = j * 3 := by rw [flat_len (k := 3) (enc := encTask) (fun _ => rfl), List.length_take]; omega
  have hlb : ((L.drop j).flatMap encTask).length = (L.length - j) * 3 := by rw [flat_len (k := 3) (enc := encTask) (fun _ => rfl), List.length_drop]
  have hab : (L.take j).flatMap encTask ++ (L.drop j).flatMap encTask = L.flatMap encTask := by rw [← List.flatMap_append, List.take_append_drop]
  have htab : cur.toList.take (((L.take j).flatMap encTask).length + ((L.drop j).flatMap encTask).length) = (L.take j).flatMap encTask ++ (L.drop j).flatMap encTask := by
    rw [hla, hlb, hab, ← ht]; congr 1; omega
  have hroomC : ((L.take j).flatMap encTask).length + (encTask x).length + ((L.drop j).flatMap encTask).length ≤ cur.toList.length := by
    have hcl : cur.toList.length = c * 3 := by rw [Array.length_toList, hsz]
    rw [hla, hlb, hcl]; show j * 3 + 3 + _ ≤ _; omega
  have fin := ins_room cur.toList ((L.take j).flatMap encTask) ((L.drop j).flatMap encTask) (encTask x) htab hroomC
  have o1 : ∀ v ∈ (L.drop j).flatMap encTask, v.oneCell' = true := fun v hv' => by
    obtain ⟨t, _, ht'⟩ := List.mem_flatMap.1 hv'
    exact oneTask t v ht'
  have mixed : Try.prog.follows Departure.mixedOrders = true := by kernel_rfl
  obtain ⟨C1, hC1⟩ : ∃ C1 : List Value, C1 = cur.toList.take (((L.take j).flatMap encTask).length + (encTask x).length) ++ (L.drop j).flatMap encTask ++ cur.toList.drop (((L.take j).flatMap encTask).length + (encTask x).length + ((L.drop j).flatMap encTask).length) := ⟨_, rfl⟩
  obtain ⟨C2, hC2⟩ : ∃ C2 : List Value, C2 = C1.take ((L.take j).flatMap encTask).length ++ encTask x ++ C1.drop (((L.take j).flatMap encTask).length + (encTask x).length) := ⟨_, rfl⟩
  have hC1l : C1.length = cur.toList.length := by rw [hC1]; simp only [List.length_append, List.length_take, List.length_drop]; omega
  rw [← hC1, ← hC2] at fin
  have hcp1 : ∀ ty dc sc, (Builtin.copy_ #[23, 23] ty #[.slice (some ⟨g, (j + 1) * 3, none⟩) (L.length - j) dc, .slice (some ⟨g, j * 3, none⟩) (L.length + 1 - j) sc]).run Try.prog w.drew = .ok (goInt ((L.length - j : Nat) : Int)) (w.drew.setRow g C1.toArray) := fun ty dc sc => by
    have := run_copy_rowK (P := Try.prog) 3 w.drew 23 23 ty 31 g ((j + 1) * 3) (L.length - j) dc ⟨g, j * 3, none⟩ (L.length + 1 - j) sc cur 31 ((L.drop j).flatMap encTask) (L.length - j) Try.underlying23 hinfo hg (by simp only [Nat.min_def]; split <;> omega) hlb
      (fun q v hq => by
        rw [Addr.add_lit]
        show w.cell? _ = _
        rw [cell_of_row w g _ _ _ _ hg, ← hq, ← Array.getElem?_toList]
        have h3 : (L.flatMap encTask)[j * 3 + q]? = ((L.drop j).flatMap encTask)[q]? := by rw [← hab, List.getElem?_append_right (by rw [hla]; omega), hla]; congr 1; omega
        rw [← h3, ← ht, List.getElem?_take]
        have := (List.getElem?_eq_some_iff.1 hq).1
        rw [hlb] at this
        rw [if_pos (by omega)]) (by rw [hlb, hsz]; omega) o1
    rw [this]
    congr 3
    rw [hC1, hla, hlb]
    have e : j * 3 + (encTask x).length = (j + 1) * 3 := by show j * 3 + 3 = _; omega
    rw [e]
  have hv2 : (w.drew.setRow g C1.toArray).heap[gv]? = some (.cells #[.int .i64 x.Id, .int .i64 x.Rank, .int .i64 x.Age] 31 (0, 0)) := (setRow_other w.drew g gv _ hne).trans hv
  have hg2 : (w.drew.setRow g C1.toArray).heap[g]? = some (.cells C1.toArray 31 (0, 0)) := setRow_heap w.drew g cur _ _ _ hg
  have hcp2 : ∀ ty dc, (Builtin.copy_ #[23, 23] ty #[.slice (some ⟨g, j * 3, none⟩) (L.length + 1 - j) dc, .slice (some ⟨gv, 0, none⟩) 1 1]).run Try.prog (w.drew.setRow g C1.toArray) = .ok (goInt 1) ((w.drew.setRow g C1.toArray).setRow g C2.toArray) := fun ty dc => by
    have := run_copy_rowK (P := Try.prog) 3 (w.drew.setRow g C1.toArray) 23 23 ty 31 g (j * 3) (L.length + 1 - j) dc ⟨gv, 0, none⟩ 1 1 C1.toArray 31 (encTask x) 1 Try.underlying23 hinfo hg2 (by simp only [Nat.min_def]; split <;> omega) rfl
      (fun q v hq => by
        rw [Addr.add_lit, cell_of_row _ gv _ _ _ _ hv2]
        simpa [encTask] using hq) (by show j * 3 + 3 ≤ _; rw [List.size_toArray, hC1l, Array.length_toList, hsz]; omega) (oneTask x)
    rw [this]
    congr 3
    rw [hC2, hla]
  have hW : Aside (Inserted base (insT L j x) w (.returned (.slice (some ⟨g, 0, none⟩) (L.length + 1) c)) ((w.drew.setRow g C1.toArray).setRow g C2.toArray)) := by
    have hg3 : ((w.drew.setRow g C1.toArray).setRow g C2.toArray).heap[g]? = some (.cells C2.toArray 31 (0, 0)) := setRow_heap _ g _ _ _ _ hg2
    refine ⟨_, _, _, rfl, (insT_len (by omega)).symm, hroom, by unfold maxLen; exact hc, ownA_row hg3 hb ?_, below_setRow (below_setRow (Below.refl _ _).drew hb _) hb _⟩
    rw [insT_len (by omega), insT_flat, ← fin, List.toList_toArray]
    congr 1
    rw [hla, hlb]
    show _ = j * 3 + 3 + _
    omega
  clear hg ht hv hsz hinfo hTI hT3 hl0 hla hlb hab htab hroomC fin o1 hC1 hC2 hC1l hv2 hg2
  go_enter Try.func46, Try.ntmps46
  go_wp2_with (simp only [hov])
  go_region_law_o (refine step_copy_runK rfl _ _ 23 23 rfl _ _ (by simp [Act.eval, Act.put]) (by simp [Act.eval, Act.put]) (hcp1 _ _ _) ?_)
  go_wp2_with (at_builtin; refine wpList_copy_runK _ rfl _ _ 23 23 rfl _ _ rfl rfl (hcp2 _ _) ?_)
  go_ret
  exact hW
end Go.Proofs.Ythppgaglmgnocaa
