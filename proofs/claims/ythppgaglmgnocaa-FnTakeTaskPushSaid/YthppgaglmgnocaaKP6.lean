/- FnTakeTaskPush: the walk. Its regions are printed by a program of ours (mkkp6.py). -/
import Derived.Test.YthppgaglmgnocaaKE
import Derived.Test.YthppgaglmgnocaaKP5
import Derived.Deep.RegionHeld3
namespace Go.Proofs.Ythppgaglmgnocaa
set_option linter.unusedVariables false
set_option linter.unusedSimpArgs false
open Go.RowKit Go.Lib

theorem held_begin {P : Program} {ops : Array Oper} {Q : Exit → Act → World → Prop} {S : World → Prop} {id : Nat} {a : Act} {w : World} {n : Nat} {L : List Bool} (hm : P.follows .mixedOrders = true) (hS : S w.drew) (hn : ops.size = n) (hL : Array.replicate n false = L.toArray)
    (h : S w.drew → wpAnyH P .any ops Q S n L.toArray a w.drew) : (Code.region id ops true).wp P Q a w := by
  subst hn
  refine wp_region_held_drew hm hS ?_
  rw [hL]
  exact h
/-- An operation that is taken first, its slot named. -/
theorem held_take {P : Program} {ops : Array Oper} {Q : Exit → Act → World → Prop} {md : Region.Mode} {S : World → Prop} {i d : Nat} {oi : Oper} {v : Value} {fuel : Nat} {listed : Array Bool} {a : Act} {w : World} (hi : ops[i]? = some oi) (hd : oi.dst = some d)
    (hs : Region.noSelect ops = true) (hf : Region.free md ops listed i = true) (hr : (Region.ready md ops listed).contains i = true)
    (hQ : ∀ c a w, Q (.panic c) (a.put oi.dst v) w → Q (.panic c) a w) (hy : YieldsIf P ops S oi v a) (hS : S w)
    (h : wpAnyH P md ops Q S fuel (listed.setIfInBounds i true) ⟨a.tmps.setIfInBounds d v, a.defers⟩ w) : wpAnyH P md ops Q S (fuel + 1) listed a w := by
  refine wpAnyH_take hi hs hf hr hQ hy hS ?_
  have e : a.put oi.dst v = ⟨a.tmps.setIfInBounds d v, a.defers⟩ := by rw [hd]; rfl
  rw [e]
  exact h

/-- What is left behind a task that is taken. -/
theorem take_facts {L : List TaskD} (hv : validT L = true) (hl : 0 < L.length) : (takeT L).length + 1 = L.length ∧ (∀ t ∈ takeT L, t.Id ≠ (nextT L).Id) ∧ (0 ≤ (nextT L).Id ∧ (nextT L).Id ≤ 99) := by
  obtain ⟨h1, h2, h3⟩ := validT_iff.1 hv
  have hm := nextT_mem hl
  refine ⟨?_, fun t ht => ?_, (okT_iff.1 (h2 _ hm)).1⟩
  · unfold takeT
    rw [List.length_map]
    exact filter_one h3 hm
  · unfold takeT at ht
    obtain ⟨u, hu, rfl⟩ := List.mem_map.1 ht
    have := (List.mem_filter.1 hu).2
    simp at this
    exact this
theorem insT_other {O : List TaskD} {j : Nat} {y : TaskD} (hO : ∀ t ∈ O, t.Id ≠ y.Id) {i : Nat} {x : TaskD} (hx : (insT O j y)[i]? = some x) (hne : x ≠ y) : x.Id ≠ y.Id := by
  have hm := List.mem_of_getElem? hx
  unfold insT at hm
  rcases List.mem_append.1 hm with hm | hm
  · rcases List.mem_append.1 hm with hm | hm
    · exact hO x (List.mem_of_mem_take hm)
    · simp at hm
      exact absurd hm hne
  · exact hO x (List.mem_of_mem_drop hm)

set_option maxRecDepth 100000 in
set_option maxHeartbeats 1000000 in
theorem fnTakeTaskPush_any (A : Option Addr) (cap : Nat) (bs : List Int) (w : World) (h : Code w A cap bs) :
    Calls Try.prog 3 #[.slice A bs.length cap] w (Yes w) := by
  have hcap := h.cap1
  have hcap2 := h.cap2
  by_cases hbig : 1048576 < bs.length
  · clear h
    go_enter Try.func3, Try.ntmps3
    go_wp2
    go_ret
    exact ⟨rfl, Below.refl _ _⟩
  · have hd := drawTakeTask_any A cap bs w h
    clear h
    go_enter Try.func3, Try.ntmps3
    go_wp2_with fail
    refine hd.mono ?_
    rintro e w1 ⟨A3, c3, L, rfl, hL, hc1, hc2, o3, b1⟩
    have B1 := hid b1
    have H1 := hid (row_arr o3)
    have HI := hid (fun w h => takeTask_any A3 L c3 w (by omega) h)
    have HS := hid (fun w h => specTakeTask_any A3 L c3 w (by omega) h)
    have HN := hid (fun w h => nextTask_any A3 L c3 w (by omega) h)
    have hVl : (takeV L).length ≤ 11 := by
      unfold takeV
      split
      · unfold takeT
        rw [List.length_map]
        exact Nat.le_trans (List.length_filter_le _ _) hL
      · simp
    have HF := hid (fun h => takeOk_some (L := L) h)
    generalize takeV L = O at *
    generalize takeOk L = ok at *
    clear b1 o3 hd
    go_wp2_with fail
    refine (HI.out _ H1.out).mono ?_
    rintro e w2 ⟨A2, c2, rfl, -, -, o2, b2⟩
    have B2 := hid (chain B1.out b2)
    have H2 := hid (H1.out.next b2)
    have O2 := hid o2.arr
    clear b2 o2
    go_wp2_with fail
    refine (HS.out _ H2.out).mono ?_
    rintro e w3 ⟨A5, c5, rfl, -, -, o5, b3⟩
    have B3 := hid (chain B2.out b3)
    have H3 := hid (H2.out.next b3)
    have O3 := hid (O2.out.next b3)
    have O5 := hid o5.arr
    have HE := hid (fun w h h' => equalTasks_same A2 A5 O c2 c5 w (by omega) h h')
    clear b3 o5
    go_wp2_with fail
    refine (HE.out _ O3.out O5.out).mono ?_
    rintro e w4 ⟨rfl, b4⟩
    have B4 := hid (chain B3.out b4)
    have H4 := hid (H3.out.next b4)
    have O4 := hid (O3.out.next b4)
    have O54 := hid (O5.out.next b4)
    clear b4
    cases hok : ok
    · clear hok
      go_wp2_with fail
      refine (HE.out _ O4.out O54.out).mono ?_
      rintro e w5 ⟨rfl, b5⟩
      have B5 := hid (chain B4.out b5)
      clear b5
      go_wp2
      go_ret
      exact ⟨rfl, B5.out⟩
    · obtain ⟨hv, hl, hOT, hvt, hnx⟩ := HF.out hok
      obtain ⟨pl1, pl2, pl3⟩ := take_facts hv hl
      rw [← hOT] at pl1 pl2 hvt
      have HP := hid (fun A c w h => pushTask_fresh A O c (nextT L).Id 9 w hvt (by have := (validT_iff.1 hv).1; omega) pl3 (by omega) pl2 h)
      have HNN : ∀ W, Arr W W.heap.size 3 encTask A3 L → Calls Try.prog 18 #[.slice A3 L.length c3] W fun e w' => e = .returned (.int .i64 (nextT L).Id) ∧ Below W.heap.size W w' := fun W hW => by
        have := HN.out W hW
        rw [hnx] at this
        exact this
      have HN2 := hid HNN
      have PL2 := hid pl2
      have hlen : O.length + 1 = L.length := pl1
      clear hok hv hOT hvt hnx HF HN pl1 pl2 pl3 HNN
      generalize (nextT L).Id = g at *
      go_wp2_with fail
      refine (HN2.out _ H4.out).mono ?_
      rintro e w5 ⟨rfl, b5⟩
      have B5 := hid (chain B4.out b5)
      have H5 := hid (H4.out.next b5)
      have O5' := hid (O4.out.next b5)
      clear b5
      go_wp2_with fail
      refine (HP.out _ _ _ O5'.out).mono ?_
      rintro e w6 ⟨j, A6, n6, rfl, hj, hn6, o6, b6⟩
      have hM := insT_len (x := ⟨g, 9, 0⟩) hj
      have HMM := hid (fun (i : Nat) (x : TaskD) (hx : (insT O j ⟨g, 9, 0⟩)[i]? = some x) (hne : x ≠ ⟨g, 9, 0⟩) => insT_other PL2.out hx hne)
      have B6 := hid (chain B5.out b6)
      have H6 := hid (H5.out.next b6)
      have O6 := hid o6.arr
      have hn6' : n6 = (insT O j ⟨g, 9, 0⟩).length := hn6.trans hM.symm
      have hn6l : n6 = L.length := by omega
      have hMl : (insT O j ⟨g, 9, 0⟩).length ≤ 12 := by rw [hM]; omega
      clear b6 o6 hM hn6 HP
      generalize insT O j ⟨g, 9, 0⟩ = M at *
      have HNL := hid hn6l
      clear hn6l hlen
      subst hn6'
      have hgg : (g == g) = true := by simp
      go_wp2
      go_loopg [10] M.length (fun gg s10 wr => ∃ i : Nat, i ≤ M.length ∧ M.length - i ≤ gg ∧ s10 = .int .i64 i ∧ Aside (Below w6.heap.size w6 wr))
      case atStart => exact ⟨0, Nat.zero_le _, by omega, rfl, Below.refl _ _⟩
      case round =>
        obtain ⟨i, hi, hgg2, rfl, R⟩ := hrel
        by_cases hlt : i < M.length
        · have hx := List.getElem?_eq_getElem hlt
          obtain ⟨p, off, rfl, hp, hc⟩ := (O6.out.below R.out).at_ hx
          generalize M[i] = x at hx hc
          have c0 : wr.cell? ⟨p, off + i * 3, none⟩ = some (.int .i64 x.Id) := by simpa using hc 0 _ rfl
          have c1 : wr.cell? ⟨p, off + i * 3 + 1, none⟩ = some (.int .i64 x.Rank) := by simpa using hc 1 _ rfl
          have c2 : wr.cell? ⟨p, off + i * 3 + 2, none⟩ = some (.int .i64 x.Age) := by simpa using hc 2 _ rfl
          have i1 : (0 : Int) ≤ (i : Int) := by omega
          have i2 : (i : Int) < (M.length : Int) := by omega
          have hpw : p < wr.heap.size := Nat.lt_of_lt_of_le hp R.out.size
          have harr := H6.out.next R.out
          have HAR := hid (HN2.out wr.drew (show Arr wr.drew wr.heap.size 3 encTask A3 L from harr))
          by_cases hxe : x = ⟨g, 9, 0⟩
          · subst hxe
            dsimp only at c0 c1 c2
            have C0 := hid c0
            have C1 := hid c1
            have C2 := hid c2
            clear hx hc harr
            go_wp2_with fail
            go_region_held3 (fun w' => w'.cell? ⟨p, off + i * 3, none⟩ = some (.int .i64 g) ∧ w'.cell? ⟨p, off + i * 3 + 1, none⟩ = some (.int .i64 9) ∧ w'.cell? ⟨p, off + i * 3 + 2, none⟩ = some (.int .i64 0)) (first | go_keep | exact ⟨q0, q1, q2⟩)
              (((with_reducible refine HAR.out.mono ?_); rintro e w7 ⟨rfl, hb7⟩; have q0 := (hb7.cell (p := ⟨p, off + i * 3, none⟩) hpw).trans C0.out; have q1 := (hb7.cell (p := ⟨p, off + i * 3 + 1, none⟩) hpw).trans C1.out; have q2 := (hb7.cell (p := ⟨p, off + i * 3 + 2, none⟩) hpw).trans C2.out; have HB7 := hid (show Below wr.heap.size wr w7 from ⟨hb7.os, hb7.tape, hb7.output, hb7.size, hb7.block⟩); clear hb7; dsimp only))
            go_wp2
            go_roundg (M.length - (i + 1))
            case measure => omega
            case rel => exact ⟨i + 1, by omega, by omega, by go_num, R.out.trans (HB7.out.mono R.out.size)⟩
          · have hne := HMM.out i x hx hxe
            have hbe : (x.Id == g) = false := by rw [beq_eq_false_iff_ne]; exact hne
            have HNE := hid hne
            clear hx hc harr hne hxe c1 c2
            go_wp2_with fail
            refine wp_region_noPanic ?_
            refine held_begin (S := (fun w' => w'.cell? ⟨p, off + i * 3, none⟩ = some (.int .i64 x.Id))) (L := [false, false, false, false, false, false, false, false, false, false, false, false, false, false, false, false, false, false, false, false, false, false, false, false]) (n := 24) (by kernel_rfl) ?_ rfl rfl (fun hHeld => ?_)
            · (first | go_keep | exact q0)
            refine held_take (i := 0) (d := 60) (v := ?_) rfl rfl (by kernel_rfl) (by kernel_rfl) (by kernel_rfl) (fun _ _ _ h => h) (Or.inl ⟨by kernel_rfl, ?_⟩) hHeld ?_
            rotate_left
            · (intro w hSw; (try dsimp only at hSw); go_simp; first | done | with_reducible rfl)
            simp only [List.setIfInBounds_toArray, List.set_cons_zero, List.set_cons_succ]
            refine held_take (i := 1) (d := 61) (v := ?_) rfl rfl (by kernel_rfl) (by kernel_rfl) (by kernel_rfl) (fun _ _ _ h => h) (Or.inl ⟨by kernel_rfl, ?_⟩) hHeld ?_
            rotate_left
            · (intro w hSw; (try dsimp only at hSw); go_simp; first | done | with_reducible rfl)
            simp only [List.setIfInBounds_toArray, List.set_cons_zero, List.set_cons_succ]
            refine held_take (i := 2) (d := 62) (v := ?_) rfl rfl (by kernel_rfl) (by kernel_rfl) (by kernel_rfl) (fun _ _ _ h => h) (Or.inl ⟨by kernel_rfl, ?_⟩) hHeld ?_
            rotate_left
            · (intro w hSw; (try dsimp only at hSw); go_simp; first | done | with_reducible rfl)
            simp only [List.setIfInBounds_toArray, List.set_cons_zero, List.set_cons_succ]
            refine held_take (i := 3) (d := 63) (v := ?_) rfl rfl (by kernel_rfl) (by kernel_rfl) (by kernel_rfl) (fun _ _ _ h => h) (Or.inl ⟨by kernel_rfl, ?_⟩) hHeld ?_
            rotate_left
            · (intro w hSw; (try dsimp only at hSw); go_simp; first | done | with_reducible rfl)
            simp only [List.setIfInBounds_toArray, List.set_cons_zero, List.set_cons_succ]
            refine held_take (i := 4) (d := 64) (v := ?_) rfl rfl (by kernel_rfl) (by kernel_rfl) (by kernel_rfl) (fun _ _ _ h => h) (Or.inl ⟨by kernel_rfl, ?_⟩) hHeld ?_
            rotate_left
            · (intro w hSw; (try dsimp only at hSw); go_simp; first | done | with_reducible rfl)
            simp only [List.setIfInBounds_toArray, List.set_cons_zero, List.set_cons_succ]
            refine held_take (i := 5) (d := 65) (v := ?_) rfl rfl (by kernel_rfl) (by kernel_rfl) (by kernel_rfl) (fun _ _ _ h => h) (Or.inl ⟨by kernel_rfl, ?_⟩) hHeld ?_
            rotate_left
            · (intro w hSw; (try dsimp only at hSw); go_simp; first | done | with_reducible rfl)
            simp only [List.setIfInBounds_toArray, List.set_cons_zero, List.set_cons_succ]
            refine wpAnyH_ready (rs := [6]) (by kernel_rfl) (by simp) ?_
            refine AllReadyH.cons rfl (fun K hK => ?_) AllReadyH.nil
            go_simp
            ((with_reducible refine HAR.out.mono ?_); rintro e w7 ⟨rfl, hb7⟩; have q0 := (hb7.cell (p := ⟨p, off + i * 3, none⟩) hpw).trans c0; have HB7 := hid (show Below wr.heap.size wr w7 from ⟨hb7.os, hb7.tape, hb7.output, hb7.size, hb7.block⟩); clear hb7; dsimp only)
            refine hK.out _ _ ?_ (fun hHeld => ?_)
            · ((try dsimp only); first | go_keep | exact q0)
            clear hK K
            try simp only [List.setIfInBounds_toArray, List.set_cons_zero, List.set_cons_succ]
            refine held_take (i := 7) (d := 67) (v := ?_) rfl rfl (by kernel_rfl) (by kernel_rfl) (by kernel_rfl) (fun _ _ _ h => h) (Or.inl ⟨by kernel_rfl, ?_⟩) hHeld ?_
            rotate_left
            · (intro w hSw; (try dsimp only at hSw); go_simp; first | done | with_reducible rfl)
            simp only [List.setIfInBounds_toArray, List.set_cons_zero, List.set_cons_succ]
            refine held_take (i := 8) (d := 68) (v := ?_) rfl rfl (by kernel_rfl) (by kernel_rfl) (by kernel_rfl) (fun _ _ _ h => h) (Or.inl ⟨by kernel_rfl, ?_⟩) hHeld ?_
            rotate_left
            · (intro w hSw; (try dsimp only at hSw); go_simp; first | done | with_reducible rfl)
            simp only [List.setIfInBounds_toArray, List.set_cons_zero, List.set_cons_succ]
            refine held_take (i := 9) (d := 69) (v := undef) rfl rfl (by kernel_rfl) (by kernel_rfl) (by kernel_rfl) (fun _ _ _ h => h) (Or.inr ⟨by kernel_rfl, rfl⟩) hHeld ?_
            simp only [List.setIfInBounds_toArray, List.set_cons_zero, List.set_cons_succ]
            refine held_take (i := 10) (d := 70) (v := undef) rfl rfl (by kernel_rfl) (by kernel_rfl) (by kernel_rfl) (fun _ _ _ h => h) (Or.inr ⟨by kernel_rfl, rfl⟩) hHeld ?_
            simp only [List.setIfInBounds_toArray, List.set_cons_zero, List.set_cons_succ]
            refine held_take (i := 11) (d := 71) (v := undef) rfl rfl (by kernel_rfl) (by kernel_rfl) (by kernel_rfl) (fun _ _ _ h => h) (Or.inr ⟨by kernel_rfl, rfl⟩) hHeld ?_
            simp only [List.setIfInBounds_toArray, List.set_cons_zero, List.set_cons_succ]
            refine held_take (i := 12) (d := 72) (v := undef) rfl rfl (by kernel_rfl) (by kernel_rfl) (by kernel_rfl) (fun _ _ _ h => h) (Or.inr ⟨by kernel_rfl, rfl⟩) hHeld ?_
            simp only [List.setIfInBounds_toArray, List.set_cons_zero, List.set_cons_succ]
            refine held_take (i := 13) (d := 73) (v := undef) rfl rfl (by kernel_rfl) (by kernel_rfl) (by kernel_rfl) (fun _ _ _ h => h) (Or.inr ⟨by kernel_rfl, rfl⟩) hHeld ?_
            simp only [List.setIfInBounds_toArray, List.set_cons_zero, List.set_cons_succ]
            refine held_take (i := 14) (d := 74) (v := undef) rfl rfl (by kernel_rfl) (by kernel_rfl) (by kernel_rfl) (fun _ _ _ h => h) (Or.inr ⟨by kernel_rfl, rfl⟩) hHeld ?_
            simp only [List.setIfInBounds_toArray, List.set_cons_zero, List.set_cons_succ]
            refine held_take (i := 15) (d := 75) (v := undef) rfl rfl (by kernel_rfl) (by kernel_rfl) (by kernel_rfl) (fun _ _ _ h => h) (Or.inr ⟨by kernel_rfl, rfl⟩) hHeld ?_
            simp only [List.setIfInBounds_toArray, List.set_cons_zero, List.set_cons_succ]
            refine held_take (i := 16) (d := 76) (v := undef) rfl rfl (by kernel_rfl) (by kernel_rfl) (by kernel_rfl) (fun _ _ _ h => h) (Or.inr ⟨by kernel_rfl, rfl⟩) hHeld ?_
            simp only [List.setIfInBounds_toArray, List.set_cons_zero, List.set_cons_succ]
            refine held_take (i := 17) (d := 77) (v := undef) rfl rfl (by kernel_rfl) (by kernel_rfl) (by kernel_rfl) (fun _ _ _ h => h) (Or.inr ⟨by kernel_rfl, rfl⟩) hHeld ?_
            simp only [List.setIfInBounds_toArray, List.set_cons_zero, List.set_cons_succ]
            refine held_take (i := 18) (d := 78) (v := undef) rfl rfl (by kernel_rfl) (by kernel_rfl) (by kernel_rfl) (fun _ _ _ h => h) (Or.inr ⟨by kernel_rfl, rfl⟩) hHeld ?_
            simp only [List.setIfInBounds_toArray, List.set_cons_zero, List.set_cons_succ]
            refine held_take (i := 19) (d := 79) (v := undef) rfl rfl (by kernel_rfl) (by kernel_rfl) (by kernel_rfl) (fun _ _ _ h => h) (Or.inr ⟨by kernel_rfl, rfl⟩) hHeld ?_
            simp only [List.setIfInBounds_toArray, List.set_cons_zero, List.set_cons_succ]
            refine held_take (i := 20) (d := 80) (v := undef) rfl rfl (by kernel_rfl) (by kernel_rfl) (by kernel_rfl) (fun _ _ _ h => h) (Or.inr ⟨by kernel_rfl, rfl⟩) hHeld ?_
            simp only [List.setIfInBounds_toArray, List.set_cons_zero, List.set_cons_succ]
            refine held_take (i := 21) (d := 81) (v := undef) rfl rfl (by kernel_rfl) (by kernel_rfl) (by kernel_rfl) (fun _ _ _ h => h) (Or.inr ⟨by kernel_rfl, rfl⟩) hHeld ?_
            simp only [List.setIfInBounds_toArray, List.set_cons_zero, List.set_cons_succ]
            refine held_take (i := 22) (d := 82) (v := undef) rfl rfl (by kernel_rfl) (by kernel_rfl) (by kernel_rfl) (fun _ _ _ h => h) (Or.inr ⟨by kernel_rfl, rfl⟩) hHeld ?_
            simp only [List.setIfInBounds_toArray, List.set_cons_zero, List.set_cons_succ]
            refine held_take (i := 23) (d := 83) (v := ?_) rfl rfl (by kernel_rfl) (by kernel_rfl) (by kernel_rfl) (fun _ _ _ h => h) (Or.inl ⟨by kernel_rfl, ?_⟩) hHeld ?_
            rotate_left
            · (intro w hSw; (try dsimp only at hSw); go_simp; first | done | with_reducible rfl)
            simp only [List.setIfInBounds_toArray, List.set_cons_zero, List.set_cons_succ]
            refine wpAnyH_done (by kernel_rfl) ?_ _
            refine NoPanic.normal ?_
            go_wp2
            go_roundg (M.length - (i + 1))
            case measure => omega
            case rel => exact ⟨i + 1, by omega, by omega, by go_num, R.out.trans (HB7.out.mono R.out.size)⟩
        · obtain rfl : i = M.length := by omega
          have hnl := HNL.out
          have e1 : ((M.length : Int) == (L.length : Int)) = true := by rw [beq_iff_eq]; omega
          have e2 : (M.length == L.length) = true := by rw [beq_iff_eq]; omega
          clear hnl
          go_wp2
          go_ret
          exact ⟨rfl, chain B6.out R.out⟩
end Go.Proofs.Ythppgaglmgnocaa
