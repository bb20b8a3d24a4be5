/- impl.CommonBox: the walk: a range over slices.Backward. -/
import Derived.Test.YtjomdcnelamefaaB20
import Derived.Test.YtjomdcnelamefaaB9
import Derived.Test.YtjomdcnelamefaaB13
import Derived.Test.YtjomdcnelamefaaB3
namespace Go.Proofs.Ytjomdcnelamefaa
set_option linter.unusedVariables false
set_option linter.unusedSimpArgs false
open Go.RowKit Go.Shelf Go.Lib

attribute [local go_sem] Oper.semAt_some

set_option maxHeartbeats 1000000 in
theorem backward_in (F : Fence) (n : Nat) (h5 : F.fn 38) (hro : F.round = none) (a : Option Addr) (len cap : Nat) (w : World) :
    CallsIn F n Try.prog 38 #[.slice a len cap] w fun e w' => e = .returned (.func (.func 52) #[] #[.pointer (some ⟨w.heap.size, 0, none⟩)]) ∧ w' = w.alloc (.cells #[.slice a len cap] 26) := by
  refine callsIn_of_wp Try.func38 rfl h5 ?_ hro
  simp only [Try.ntmps38, List.size_toArray, List.length_cons, List.length_nil, Nat.reduceAdd, Nat.reduceSub, Array.replicate_succ, Array.replicate_zero, List.push_toArray, List.append_toArray, List.nil_append, List.cons_append]
  gi_wp2
  go_ret
  exact ⟨rfl, rfl⟩

theorem backward_stops (F : Fence) (n : Nat) (h7 : F.fn 52) (hro : F.round = none) (hn : 1 ≤ n) (Bs n₀ b off len cap : Nat) (zs : List Nat) (hlen : len = zs.length) (hreach : len ≤ 100) (w : World) (hBs : Bs < n₀) (hn₀ : n₀ ≤ w.heap.size) (hb : b < n₀)
    (hB : w.cell? ⟨Bs, 0, none⟩ = some (.slice (some ⟨b, off, none⟩) len cap)) (hc : ∀ j, j < len → w.cell? ⟨b, off + j, none⟩ = some (.int .i64 ((zs[j]?.getD 0 : Nat) : Int))) :
    SeqStopsK F n Try.prog 52 #[.pointer (some ⟨Bs, 0, none⟩)] (fun x : Int × Nat => #[Value.int .i64 x.1, Value.int .i64 (x.2 : Int)]) (Below n₀) (fun ys => ys = backTo zs len) (fun pre => ∃ k, k ≤ len ∧ pre = backTo zs k) len w := fun l J Jx W hW _ _ hY h0 => by
  have hW' := hW.mono hn₀
  refine (backward1_in F n h7 hro hn l Bs n₀ b off len cap zs hlen hreach hb J Jx hY W ((hW'.cell (p := ⟨Bs, 0, none⟩) hBs).trans hB) hBs (fun j hj => (hW'.cell (p := ⟨b, off + j, none⟩) hb).trans (hc j hj)) h0).mono ?_
  rintro e W' ⟨he, ⟨ys, rfl, hj⟩ | ⟨pre, hk, hj⟩⟩
  · exact ⟨he, .inl ⟨_, rfl, hj⟩⟩
  · exact ⟨he, .inr ⟨_, hk, hj⟩⟩

theorem al_old {w : World} {g : Nat} {o : Obj} (h : w.heap[g]? = some o) (o' : Obj) : (w.alloc o').heap[g]? = some o :=
  (Below.heap_alloc w o' g (Array.getElem?_eq_some_iff.1 h).1).trans h
theorem al_at {W : World} {o : Obj} {k : Nat} (h : k = W.heap.size) : (W.alloc o).heap[k]? = some o := by
  subst h
  exact heap_alloc_new _ _
theorem cell1 {W : World} {g : Nat} {v : Value} {e : TypeId} (h : W.heap[g]? = some (.cells #[v] e (0, 0))) : W.cell? ⟨g, 0, none⟩ = some v ∧ W.frozen? ⟨g, 0, none⟩ = false :=
  ⟨by rw [cell_of_row W _ _ _ _ _ h]; rfl, frozen_of_row W _ _ _ _ h⟩
theorem blk_below {w w' : World} {g : Nat} {o : Obj} (h : w.heap[g]? = some o) (hb : Below w.heap.size w w') : w'.heap[g]? = some o :=
  (hb.block g (Array.getElem?_eq_some_iff.1 h).1).trans h

theorem givesN {C : List Int} {n : Nat} {w w' : World} {e : Ending} (hn : C.length = n) (h : Gives 1 encI C w e w') : ∃ A c, e = .returned (.slice A n c) ∧ n ≤ c ∧ c ≤ maxLen ∧ Arr w' w'.heap.size 1 encI A C ∧ Below w.heap.size w w' := by
  subst hn
  obtain ⟨A, c, h1, h2, h3, h4, h5⟩ := h
  exact ⟨A, c, h1, h2, h3, h4.arr, h5⟩

theorem at_inB {T : List BoxD} (v : ValidT T) {k : Nat} (hk : k < T.length) : atIn T (k : Int) = true := atIn_iff.2 ⟨v, by omega, by simpa using hk⟩
theorem cells_after {W W' : World} {g0 g1 g2 : Nat} {v0 v1 v2 : Value} (h0 : W.cell? ⟨g0, 0, none⟩ = some v0) (h1 : W.cell? ⟨g1, 0, none⟩ = some v1) (h2 : W.cell? ⟨g2, 0, none⟩ = some v2) (h3 : W.frozen? ⟨g2, 0, none⟩ = false) (l0 : g0 < W.heap.size) (l1 : g1 < W.heap.size) (l2 : g2 < W.heap.size) (hb : Below W.heap.size W W') :
    W'.cell? ⟨g0, 0, none⟩ = some v0 ∧ W'.cell? ⟨g1, 0, none⟩ = some v1 ∧ W'.cell? ⟨g2, 0, none⟩ = some v2 ∧ W'.frozen? ⟨g2, 0, none⟩ = false :=
  ⟨(hb.cell (p := ⟨g0, 0, none⟩) l0).trans h0, (hb.cell (p := ⟨g1, 0, none⟩) l1).trans h1, (hb.cell (p := ⟨g2, 0, none⟩) l2).trans h2, (hb.frozen (p := ⟨g2, 0, none⟩) l2).trans h3⟩
theorem keeps_below {W W' : World} (hb : Below W.heap.size W W') : KeepsOthers W W' :=
  ⟨hb.size, fun k o hk _ => (hb.block k (Array.getElem?_eq_some_iff.1 hk).1).trans hk⟩
theorem path_up (T : List BoxD) (a j : Nat) (hj : j < (pathOf T a).length) : (up T a)[j]? = some ((pathOf T a)[(pathOf T a).length - 1 - j]?.getD 0) := by
  unfold pathOf at *
  rw [List.length_reverse] at *
  rw [List.getElem?_reverse (by omega), show (up T a).length - 1 - ((up T a).length - 1 - j) = j by omega, List.getElem?_eq_getElem hj]
  rfl
theorem back_mem {zs : List Nat} {n j : Nat} (hj : j < n) : ((zs.length : Int) - 1 - (j : Int), zs[zs.length - 1 - j]?.getD 0) ∈ backTo zs n :=
  List.mem_map.2 ⟨j, List.mem_range.2 hj, rfl⟩
theorem back_root {T : List BoxD} (v : ValidT T) {a : Nat} (ha : a < T.length) : ∃ i : Int, (i, 0) ∈ backTo (pathOf T a) (pathOf T a).length := by
  have h := path_head v.ord.1 a ha
  have hp := path_pos T a
  have hm := back_mem (zs := pathOf T a) (show (pathOf T a).length - 1 < (pathOf T a).length by omega)
  rw [show (pathOf T a).length - 1 - ((pathOf T a).length - 1) = 0 by omega, h] at hm
  exact ⟨_, hm⟩
theorem common_back {T : List BoxD} {a k j : Nat} {pre : List (Int × Nat)} {z : Int × Nat} (hj : j ≤ (pathOf T a).length) (h : backTo (pathOf T a) j = pre ++ [z]) (hno : ∀ u ∈ pre, aroundB T u.2 k = false) (hyes : aroundB T z.2 k = true) : common T a k = z.2 := by
  have hl := congrArg List.length h
  rw [backTo_length, List.length_append, List.length_singleton] at hl
  subst hl
  rw [backTo_succ] at h
  obtain ⟨h1, h2⟩ := List.append_inj' h rfl
  injection h2 with h2
  have hz : (up T a)[pre.length]? = some z.2 := by rw [path_up T a _ (by omega), ← h2]
  unfold common
  have hf : (up T a).find? (aroundB T · k) = some z.2 := by
    rw [List.find?_eq_some_iff_getElem]
    obtain ⟨hlt, hge⟩ := List.getElem?_eq_some_iff.1 hz
    refine ⟨hyes, pre.length, hlt, hge, fun i hi => ?_⟩
    have hm := back_mem (zs := pathOf T a) hi
    rw [h1] at hm
    have hn := hno _ hm
    have hu := path_up T a i (by omega)
    have he := (List.getElem?_eq_some_iff.1 hu).2
    rw [he]
    simpa using hn
  rw [hf]
  rfl

set_option maxRecDepth 100000 in
set_option maxHeartbeats 4000000 in
theorem commonBox_any (A : Option Addr) (T : List BoxD) (c : Nat) (x y : Int) (w : World) (hL : T.length ≤ 1048576) (h : Arr w w.heap.size 9 encBox A T) :
    Calls Try.prog 28 #[.slice A T.length c, .int .i64 x, .int .i64 y] w fun e w' => e = .returned (.int .i64 (commonV T x y)) ∧ Below w.heap.size w w' := by
  have H := hid h
  refine (callsIn_wide (n := 3)).1 ?_
  refine callsIn_of_wp_marks Try.func28 rfl trivial ?_ rfl
  simp only [Try.ntmps28, List.size_toArray, List.length_cons, List.length_nil, Nat.reduceAdd, Nat.reduceSub, Array.replicate_succ, Array.replicate_zero, List.push_toArray, List.append_toArray, List.nil_append, List.cons_append]
  have CX := hid (fun W (hW : Arr W W.heap.size 9 encBox A T) => boxIn_any A T c x W hL hW)
  have CY := hid (fun W (hW : Arr W W.heap.size 9 encBox A T) => boxIn_any A T c y W hL hW)
  obtain ⟨rx, hrx⟩ : ∃ rx, atIn T x = rx := ⟨_, rfl⟩
  obtain ⟨ry, hry⟩ : ∃ ry, atIn T y = ry := ⟨_, rfl⟩
  rw [hrx] at CX
  rw [hry] at CY
  have HRX := hid hrx
  have HRY := hid hry
  clear hrx hry h
  gi_wp2_with fail
  obtain ⟨W0, hW0⟩ : ∃ W0, W0 = ((w.alloc (.cells #[.slice A T.length c] 23)).alloc (.cells #[.int .i64 y] 3)).alloc (.cells #[.int .i64 0] 3) := ⟨_, rfl⟩
  have X0 := hid (show W0.heap[w.heap.size]? = some (.cells #[.slice A T.length c] 23 (0, 0)) by rw [hW0]; exact al_old (al_old (heap_alloc_new _ _) _) _)
  have X1 := hid (show W0.heap[w.heap.size + 1]? = some (.cells #[.int .i64 y] 3 (0, 0)) by rw [hW0]; exact al_old (al_at (by simp)) _)
  have X2 := hid (show W0.heap[w.heap.size + 1 + 1]? = some (.cells #[.int .i64 0] 3 (0, 0)) by rw [hW0]; exact al_at (by simp))
  have hs0 : W0.heap.size = w.heap.size + 3 := by rw [hW0]; simp
  have B0 := hid (show Below w.heap.size w W0 by rw [hW0]; exact (((Below.refl _ w).alloc (Nat.le_refl _) _).alloc (by simp) _).alloc (by simp; omega) _)
  rw [← hW0]
  clear hW0
  have H0 := hid (H.out.next B0.out)
  refine ⟨trivial, (callsIn_wide.2 (CX.out _ H0.out)).mono ?_⟩
  rintro e w1 ⟨rfl, b1⟩
  have B1 := hid (chain B0.out b1)
  have H1 := hid (H0.out.next b1)
  have Y0 := hid (blk_below X0.out b1)
  have Y1 := hid (blk_below X1.out b1)
  have Y2 := hid (blk_below X2.out b1)
  have hs1 : w.heap.size + 3 ≤ w1.heap.size := by have := b1.size; omega
  clear b1 X0 X1 X2 H0
  cases rx
  · have HV := hid (show commonV T x y = -1 by unfold commonV; rw [HRX.out]; rfl)
    obtain ⟨d2, f2⟩ := cell1 Y2.out
    gi_wp2_with fail
    refine ⟨trivial, ?_⟩
    gi_wp2_with fail
    show LeavesInM _ _ _ _ _ _ [] _ _
    unfold LeavesInM
    exact ⟨.int .i64 (-1), by simp [results, Try.f28, go_sem, World.cell?_setCell_same' _ _ _ (show (w1.cell? ⟨w.heap.size + 1 + 1, 0, none⟩).isSome = true by rw [d2]; rfl)], by rw [HV.out], B1.out.setCell (p := ⟨w.heap.size + 1 + 1, 0, none⟩) (by simp; omega) _⟩
  · obtain ⟨d0, -⟩ := cell1 Y0.out
    obtain ⟨d1, -⟩ := cell1 Y1.out
    gi_wp2_with fail
    refine ⟨trivial, (callsIn_wide.2 (CY.out _ H1.out)).mono ?_⟩
    rintro e w2 ⟨rfl, b2⟩
    have B2 := hid (chain B1.out b2)
    have H2 := hid (H1.out.next b2)
    have Z0 := hid (blk_below Y0.out b2)
    have Z1 := hid (blk_below Y1.out b2)
    have Z2 := hid (blk_below Y2.out b2)
    have hs2 : w.heap.size + 3 ≤ w2.heap.size := by have := b2.size; omega
    clear b2 Y0 Y1 Y2 H1 d0 d1
    cases ry
    · have HV := hid (show commonV T x y = -1 by unfold commonV; rw [HRY.out]; cases atIn T x <;> rfl)
      obtain ⟨d2, f2⟩ := cell1 Z2.out
      gi_wp2_with fail
      show LeavesInM _ _ _ _ _ _ [] _ _
      unfold LeavesInM
      exact ⟨.int .i64 (-1), by simp [results, Try.f28, go_sem, World.cell?_setCell_same' _ _ _ (show (w2.cell? ⟨w.heap.size + 1 + 1, 0, none⟩).isSome = true by rw [d2]; rfl)], by rw [HV.out], B2.out.setCell (p := ⟨w.heap.size + 1 + 1, 0, none⟩) (by simp; omega) _⟩
    · obtain ⟨a, rfl, ha, v⟩ := atIn_nat HRX.out
      obtain ⟨k, rfl, hk, -⟩ := atIn_nat HRY.out
      obtain ⟨m, hm⟩ : ∃ m, (asI (pathOf T a)).length = m := ⟨_, rfl⟩
      have hm6 : m ≤ 6 := by have := v.dep a ha; rw [asI_len, pathOf, List.length_reverse] at hm; omega
      have hmp : 0 < m := by have := up_len_pos T a; rw [asI_len, pathOf, List.length_reverse] at hm; omega
      have CP := hid ((path_any A T c a w2 hL ha (by have := v.len; omega) (v.ord.1.less (by omega)) H2.out).mono fun e w' h => givesN hm h)
      have HM := hid hm
      have HVV := hid v
      obtain ⟨d0, -⟩ := cell1 Z0.out
      clear v hm
      gi_wp2_with fail
      refine ⟨trivial, (callsIn_wide.2 CP.out).mono ?_⟩
      rintro e w3 ⟨PA, pc, rfl, hp1, hp2, par, b3⟩
      have B3 := hid (chain B2.out b3)
      have H3 := hid (H2.out.next b3)
      have V0 := hid (blk_below Z0.out b3)
      have V1 := hid (blk_below Z1.out b3)
      have V2 := hid (blk_below Z2.out b3)
      have hs3 : w.heap.size + 3 ≤ w3.heap.size := by have := b3.size; omega
      obtain ⟨pb, poff, rfl, hpb, hpc⟩ := par (by rw [HM.out]; exact hmp)
      have HPC := hid hpc
      clear b3 par hpc Z0 Z1 Z2 H2 d0 CP CX CY
      gi_wp2_with fail
      refine ⟨trivial, (backward_in Fence.wide 2 trivial rfl _ m pc w3).mono ?_⟩
      rintro e w4 ⟨rfl, rfl⟩
      gi_wp2_with fail
      have Q0 := al_old V0.out (.cells #[.slice (some ⟨pb, poff, none⟩) m pc] 26)
      have Q1 := al_old V1.out (.cells #[.slice (some ⟨pb, poff, none⟩) m pc] 26)
      have Q2 := al_old V2.out (.cells #[.slice (some ⟨pb, poff, none⟩) m pc] 26)
      have Q3 : (w3.alloc (.cells #[.slice (some ⟨pb, poff, none⟩) m pc] 26)).heap[w3.heap.size]? = some (.cells #[.slice (some ⟨pb, poff, none⟩) m pc] 26 (0, 0)) := heap_alloc_new _ _
      have B4 : Below w.heap.size w (w3.alloc (.cells #[.slice (some ⟨pb, poff, none⟩) m pc] 26)) := B3.out.alloc (by omega) _
      have hs4 : (w3.alloc (.cells #[.slice (some ⟨pb, poff, none⟩) m pc] 26)).heap.size = w3.heap.size + 1 := by simp
      have LM := HM.out
      rw [asI_len] at LM
      refine wpIn_rangeFunc_ownF rfl (by omega) (gf := 52) (lb := #[.pointer (some ⟨w3.heap.size, 0, none⟩)]) rfl trivial (enters_of Try.func52 (by kernel_rfl) rfl)
        (backward_stops Fence.wide 2 trivial rfl (by omega) w3.heap.size (w3.heap.size + 1) pb poff m pc (pathOf T a) LM.symm (by omega) _ (by omega) (by omega) (by omega) (cell1 Q3).1 ?cells) belowK_t (belowK_b (by omega)) (Below.refl _ _) (fun _ => rfl)
        (fun pre W => ((∀ u ∈ pre, aroundB T u.2 k = false) ∧ W.cell? ⟨w.heap.size, 0, none⟩ = some (.slice A T.length c) ∧ W.cell? ⟨w.heap.size + 1, 0, none⟩ = some (.int .i64 (k : Int)) ∧ W.cell? ⟨w.heap.size + 1 + 1, 0, none⟩ = some (.int .i64 0) ∧ W.frozen? ⟨w.heap.size + 1 + 1, 0, none⟩ = false) ∧ (Below w.heap.size w W ∧ Below (w3.heap.size + 1) (w3.alloc (.cells #[.slice (some ⟨pb, poff, none⟩) m pc] 26)) W))
        (fun c pre W => (c = .ret ∧ ∃ pre' z, pre = pre' ++ [z] ∧ (∀ u ∈ pre', aroundB T u.2 k = false) ∧ aroundB T z.2 k = true ∧ W.cell? ⟨w.heap.size + 1 + 1, 0, none⟩ = some (.int .i64 (z.2 : Int))) ∧ Below w.heap.size w W)
        (OwnFrom.and (Own.from (fun s A B row hs hg hr => ⟨hs.1, cell_kept hs.2.1 hg hr, cell_kept hs.2.2.1 hg hr, cell_kept hs.2.2.2.1 hg hr, (frozen_kept hs.2.2.2.1 hg hr).trans hs.2.2.2.2⟩) _) (OwnFrom.and (ownFrom_below (Nat.le_refl _) (by omega)) (ownFrom_below (by omega) (by omega))))
        (fun c => OwnFrom.and (Own.from (fun s A B row hs hg hr => ⟨hs.1, by obtain ⟨-, pre', z, h1, h2, h3, h4⟩ := hs; exact ⟨pre', z, h1, h2, h3, cell_kept h4 hg hr⟩⟩) _) (ownFrom_below (Nat.le_refl _) (by omega)))
        ⟨⟨by simp, (cell1 Q0).1, (cell1 Q1).1, (cell1 Q2).1, (cell1 Q2).2⟩, B4, Below.refl _ _⟩
        (fun x => { tmps := #[.slice A T.length c, .int .i64 (a : Int), .int .i64 (k : Int), .pointer (some ⟨w.heap.size, 0, none⟩), undef, .pointer (some ⟨w.heap.size + 1, 0, none⟩), .pointer (some ⟨w.heap.size + 1 + 1, 0, none⟩), undef, .int .i64 (x.2 : Int), .slice A T.length c, .int .i64 (a : Int), .bool true, .bool false, .bool false, .slice A T.length c, .int .i64 (k : Int), .bool true, .bool false, .bool false, .slice A T.length c, .int .i64 (a : Int), .slice (some ⟨pb, poff, none⟩) m pc, .func (.func 52) #[] #[.pointer (some ⟨w3.heap.size, 0, none⟩)], .int .i64 x.1, .int .i64 (x.2 : Int), undef, undef, undef, undef, undef], defers := [] }) ?assign ?body ?done ?stop
      case cells =>
        intro j hj
        have hj' : j < (asI (pathOf T a)).length := by rw [HM.out]; exact hj
        obtain ⟨q, hq⟩ : ∃ q, (pathOf T a)[j]? = some q := ⟨_, List.getElem?_eq_getElem (by rw [LM]; exact hj)⟩
        rw [hq, Option.getD_some]
        have := HPC.out j _ (asI_at hq) 0 _ rfl
        rw [Nat.mul_one, Nat.add_zero] at this
        exact (World.cell?_of_block (Below.heap_alloc w3 _ pb (by omega))).trans this
      case assign =>
        intro l x W K hK
        gi_wp2
        exact hK
      case body =>
        rintro l pre x W ⟨⟨hno, hc0, hc1, hc2, hf2⟩, hB, hB5⟩ _
        have hs5 : w3.heap.size + 1 ≤ W.heap.size := by have := hB5.size; omega
        have HB5 := hid hB5
        clear hB5
        have HW := H.out.next hB
        obtain ⟨r, hr⟩ : ∃ r, aroundB T x.2 k = r := ⟨_, rfl⟩
        have CA := around_any A T c x.2 k W hL hk (by have := HVV.out.len; omega) (HVV.out.ord.1.less (by omega)) HW
        rw [hr] at CA
        have HCA := hid CA
        have HR := hid hr
        have HNO := hid hno
        have HBW := hid hB
        have KK := hid (fun W' (hb : Below W.heap.size W W') => cells_after hc0 hc1 hc2 hf2 (by omega) (by omega) (by omega) hb)
        have hsW := hB.size
        clear CA hr hno HW hB
        gi_wp2_with fail
        refine ⟨trivial, (CallsIn.inRound l (callsIn_wide.2 HCA.out)).mono ?_⟩
        rintro e w' ⟨rfl, bb⟩
        obtain ⟨e0, e1, e2, f2'⟩ := KK.out w' bb
        have BW := HBW.out.trans (bb.mono hsW)
        cases r
        · gi_wp2
          exact ⟨keeps_below bb, bb.mono hs5, ⟨(fun u hu => (List.mem_append.1 hu).elim (HNO.out u) (fun h => by rw [List.mem_singleton.1 h]; exact HR.out)), e0, e1, e2, f2'⟩, BW, HB5.out.trans (bb.mono hs5)⟩
        · gi_wp2
          refine ⟨(keeps_below bb).trans (KeepsOthers.setCell _ _ _), ⟨rfl, pre, x, rfl, HNO.out, HR.out, World.cell?_setCell_same' _ _ _ (by rw [e2]; rfl)⟩, BW.setCell (p := ⟨w.heap.size + 1 + 1, 0, none⟩) (by simp; omega) _⟩
      case done =>
        rintro D ys W hD rfl ⟨⟨hno, -⟩, -⟩ hK
        obtain ⟨i, hi⟩ := back_root HVV.out ha
        rw [LM] at hi
        exact absurd (hno (i, 0) hi) (by rw [Bool.not_eq_false]; exact aroundB_iff.2 (up_root HVV.out.ord.1 k hk))
      case stop =>
        rintro D c pre W hD ⟨j, hj, rfl⟩ ⟨⟨rfl, pre', z, hpre, hno, hyes, hcell⟩, hB⟩ hK
        have hcm := common_back (by rw [LM]; exact hj) hpre hno hyes
        have HCV := hid (show commonV T (a : Int) (k : Int) = (z.2 : Int) by rw [commonV, at_inB HVV.out ha, at_inB HVV.out hk, Int.toNat_natCast, Int.toNat_natCast, hcm]; rfl)
        have HB := hid hB
        clear hpre hno hyes hcm hB
        gi_wp2
        refine ⟨by simp, .inl ⟨_, _, rfl, run_takeDeferred hK, ?_⟩⟩
        have hc5 := cell_kept hcell (grownBy_putObj' _ D (.deferred none)) (fun r e => by cases e; exact ⟨_, hK, rfl⟩)
        refine ⟨.int .i64 (z.2 : Int), ?_, by rw [HCV.out], HB.out.trans (belowK_b (w := w) (Nat.le_refl _) W D _ _ (by omega) hK rfl rfl)⟩
        simp [results, Try.f28, go_sem, hc5]
#print axioms commonBox_any
end Go.Proofs.Ytjomdcnelamefaa
