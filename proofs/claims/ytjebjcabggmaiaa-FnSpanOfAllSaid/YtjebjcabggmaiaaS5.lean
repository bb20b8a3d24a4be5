/- impl.share: the walk. -/
import Derived.Test.YtjebjcabggmaiaaS4
namespace Go.Proofs.Ytjebjcabggmaiaa
set_option linter.unusedVariables false
set_option linter.unusedSimpArgs false
open Go.RowKit Go.Lib

theorem smallI_w {ws : List Int} (h : smallI ws) : ∀ x ∈ ws, 0 ≤ x := fun x hx => (h x hx).1
theorem bases_small {sp : Int} {ws : List Int} (hsp : 0 ≤ sp ∧ sp ≤ 200000) (hw : smallI ws) (hS : 0 < ws.sum) : smallI (bases sp ws) := fun x hx => by
  obtain ⟨i, hi, rfl⟩ := List.mem_iff_getElem.1 hx
  have hi' : i < ws.length := by rw [bases_len] at hi; exact hi
  have h1 := bases_at (sp := sp) hi'
  rw [List.getElem?_eq_getElem hi] at h1
  injection h1 with h1
  rw [h1]
  have := base_le hsp.1 (smallI_w hw) hS hi'
  omega
theorem order_range {ws : List Int} {k x : Nat} {sp : Int} (h : (orderOf sp ws)[k]? = some x) : x < ws.length := order_at h

/-- The two boxes of share and its result are made. -/
theorem sh_start {w w1 : World} {A : Option Addr} {n c : Nat} {sp : Int} {L : List Int}
    (own : OwnA w1 ((w.alloc (.cells #[.int .i64 sp] 3)).alloc (.cells #[.slice A n c] 24)).heap.size 1 encI (some ⟨((w.alloc (.cells #[.int .i64 sp] 3)).alloc (.cells #[.slice A n c] 24)).heap.size, 0, none⟩) L)
    (gr : ((w.alloc (.cells #[.int .i64 sp] 3)).alloc (.cells #[.slice A n c] 24)).grownBy w1 none) (sz : w1.heap.size = ((w.alloc (.cells #[.int .i64 sp] 3)).alloc (.cells #[.slice A n c] 24)).heap.size + 1) :
    (w1.cell? ⟨w.heap.size, 0, none⟩ = some (.int .i64 sp) ∧ w1.cell? ⟨w.heap.size + 1, 0, none⟩ = some (.slice A n c)) ∧
      Aside (w1.heap[w.heap.size]? = some (.cells #[.int .i64 sp] 3 (0, 0)) ∧ w1.heap[w.heap.size + 1]? = some (.cells #[.slice A n c] 24 (0, 0)) ∧ OwnA w1 w.heap.size 1 encI (some ⟨w.heap.size + 1 + 1, 0, none⟩) L ∧ w1.heap.size = w.heap.size + 3 ∧ Below w.heap.size w w1) := by
  have b1 : Below w.heap.size w w1 := (((Below.refl _ _).alloc (Nat.le_refl _) _).alloc (by simp) _).grown gr (by simp; omega) (by simp)
  have e1 : w1.heap[w.heap.size]? = some (.cells #[.int .i64 sp] 3 (0, 0)) := (gr.block w.heap.size (by simp; omega) (by simp)).trans ((heap_alloc_old _ _ (by simp)).trans (heap_alloc_new _ _))
  have e2 : w1.heap[w.heap.size + 1]? = some (.cells #[.slice A n c] 24 (0, 0)) := (gr.block (w.heap.size + 1) (by simp) (by simp)).trans (by have := heap_alloc_new (w.alloc (.cells #[.int .i64 sp] 3)) (.cells #[.slice A n c] 24); simpa using this)
  refine ⟨⟨by rw [cell_of_row _ _ _ _ _ _ e1]; rfl, by rw [cell_of_row _ _ _ _ _ _ e2]; rfl⟩, e1, e2, ?_, by simpa using sz, b1⟩
  have := own.less (B := w.heap.size) (by simp; omega)
  simpa using this
theorem sh_box {w w1 : World} {A : Option Addr} {n c : Nat} {sp S : Int} {L : List Int}
    (h : w1.heap[w.heap.size]? = some (.cells #[.int .i64 sp] 3 (0, 0)) ∧ w1.heap[w.heap.size + 1]? = some (.cells #[.slice A n c] 24 (0, 0)) ∧ OwnA w1 w.heap.size 1 encI (some ⟨w.heap.size + 1 + 1, 0, none⟩) L ∧ w1.heap.size = w.heap.size + 3 ∧ Below w.heap.size w w1) :
    ShRel w A n c sp S w1.heap.size L (w1.alloc (.cells #[.int .i64 S] 3)) := by
  obtain ⟨h1, h2, h3, h4, h5⟩ := h
  have ha := World.grownBy_alloc w1 (.cells #[.int .i64 S] 3) none
  exact ⟨h4, (heap_alloc_old _ _ (by omega)).trans h1, (heap_alloc_old _ _ (by omega)).trans h2, heap_alloc_new _ _, h3.far (hi := w.heap.size + 3) (fun _ a e => by injection e with e; subst e; show w.heap.size + 1 + 1 < _; omega) ha (fun g e => by cases e), by simp, h5.alloc h5.size _⟩
set_option maxHeartbeats 4000000 in
theorem share_any (sp : Int) (A : Option Addr) (ws : List Int) (c : Nat) (w : World) (hsp : 0 ≤ sp ∧ sp ≤ 200000) (hl : 0 < ws.length) (hl8 : ws.length ≤ 8) (hw : smallI ws) (h : Arr w w.heap.size 1 encI A ws) :
    Calls Try.prog 37 #[.int .i64 sp, .slice A ws.length c] w (Gives 1 encI (shareM sp ws) w) := by
  have H := hid h
  have HW := hid hw
  have TOT := hid (fun W (hW : Arr W W.heap.size 1 encI A ws) => total_any A ws ws.length c W rfl (by omega) hw hW)
  have hsb := sums_bd hw (by omega) ws.length
  rw [List.take_length] at hsb
  obtain ⟨sb1, sb2⟩ := hsb
  obtain ⟨sp1, sp2⟩ := hsp
  by_cases hs : ws.sum = 0
  · have hs1 : (ws.sum == 0) = true := by rw [hs]; rfl
    have hM : shareM sp ws = List.replicate ws.length 0 := by unfold shareM; rw [if_pos hs]
    rw [hM]
    clear h hw hM
    generalize ws.sum = S at *
    subst hs
    go_enter Try.func37, Try.ntmps37
    go_wp2_with (at_make; refine wpList_makeE _ eltIntS (.int .i64 0) (by kernel_rfl) encI (fun _ => rfl) 0 rfl rfl (.tmp 13) (.tmp 13) rfl ws.length rfl rfl (by omega) ?_; intro w1 own1 gr1 sz1; obtain ⟨⟨q2, q3⟩, SR⟩ := sh_start own1 gr1 sz1; clear own1 gr1 sz1)
    have H1 := hid (H.out.next SR.out.2.2.2.2)
    refine (TOT.out _ H1.out).mono ?_
    rintro e w2 ⟨rfl, rfl⟩
    have SB := hid (sh_box (S := 0) SR.out)
    clear SR
    go_wp2
    go_ret
    have := SB.out.gives (by simp) (by omega)
    simpa using this
  · have hs1 : (ws.sum == 0) = false := by rw [beq_eq_false_iff_ne]; exact hs
    have hM : shareM sp ws = shareTo sp ws (leftOf sp ws).toNat := by unfold shareM; rw [if_neg hs]
    have hS : 0 < ws.sum := by omega
    have hlb := left_bd sp1 (smallI_w hw) hS
    have R00 : ∀ (w1 w4 : World), ShRel w A ws.length c sp ws.sum w1.heap.size (List.replicate ws.length 0) w4 → w4.ownsRow (w1.heap.size + 1) 3 1 (.slice (some ⟨w1.heap.size + 1, 0, none⟩) 0 ws.length) 0 [] → Aside (Sh1 w A c sp ws w1.heap.size 0 (some ⟨w1.heap.size + 1, 0, none⟩) ws.length w4) := fun w1 w4 h ho => ⟨by simpa using h, by simpa using ho⟩
    rw [hM]
    have HLB := hid hlb
    have BS := hid (bases_small ⟨sp1, sp2⟩ hw hS)
    clear h hw hM
    generalize hSS : ws.sum = S at *
    have ESS := hid hSS
    clear hSS
    go_enter Try.func37, Try.ntmps37
    go_wp2_with (at_make; refine wpList_makeE _ eltIntS (.int .i64 0) (by kernel_rfl) encI (fun _ => rfl) 0 rfl rfl (.tmp 13) (.tmp 13) rfl ws.length rfl rfl (by omega) ?_; intro w1 own1 gr1 sz1; obtain ⟨⟨q2, q3⟩, SR⟩ := sh_start own1 gr1 sz1; clear own1 gr1 sz1)
    have H1 := hid (H.out.next SR.out.2.2.2.2)
    have n0 : w.heap.size + 1 < w1.heap.size := by have := SR.out.2.2.2.1; omega
    refine (TOT.out _ H1.out).mono ?_
    rintro e w2 ⟨rfl, rfl⟩
    go_wp2_with (at_make; refine wpList_make0 _ eltIntS rfl _ (.tmp 21) rfl ws.length rfl rfl (by omega) ?_; intro w4 own4 hb4; have R1 := R00 w1 w4 ((sh_box SR.out).below (by simpa using hb4)) (by simpa using own4); obtain ⟨k2, k3, k6⟩ := R1.out.1.cells; clear own4 hb4 R00 SR n0)
    clear q2 q3 H1 k2 k3 k6
    go_loopg [7, 8, 9, 25] ws.length (fun gg s7 _ _ s25 wr => ∃ (i c7 : Nat) (A7 : Option Addr), i ≤ ws.length ∧ ws.length - i ≤ gg ∧ s7 = .slice A7 i c7 ∧ s25 = .int .i64 i ∧ Aside (Sh1 w A c sp ws w1.heap.size i A7 c7 wr))
    case atStart => exact ⟨0, _, _, Nat.zero_le _, by omega, rfl, rfl, R1⟩
    case round =>
      obtain ⟨i, c7, A7, hi, hgg, rfl, rfl, R⟩ := hrel
      clear R1
      obtain ⟨sr, own⟩ := R.out
      rw [ESS.out] at sr
      obtain ⟨k2, k3, k6⟩ := sr.cells
      have hb6 := sr.1
      have hb7 := sr.2.2.2.2.2.1
      by_cases hlt : i < ws.length
      · obtain ⟨b, off, x, rfl, hb, hx, e1⟩ := (H.out.below sr.2.2.2.2.2.2).at1 hlt
        obtain ⟨z1, z2⟩ := sr.at_ (bases_zero (sp := sp) hlt rfl)
        have z3 := z2 i
        have hbx := HW.out x (List.mem_of_getElem? hx)
        have hp := mul_bd ⟨sp1, sp2⟩ hbx
        have m1 : IntKind.i64.wrap (sp * x) = sp * x := IntWalk.i64_in _ (by omega)
        have d1 : IntKind.i64.wrap ((sp * x).tdiv S) = baseAt sp ws i := by
          rw [IntWalk.i64_quo _ _ ⟨hp.1, by omega, by omega⟩]
          unfold baseAt
          rw [wAt_of hx, ESS.out]
        have y1 : S ≠ 0 := by omega
        have y2 : (S == 0) = false := by rw [beq_eq_false_iff_ne]; exact y1
        have S1 := sr.set (x := baseAt sp ws i) (bases_zero (sp := sp) hlt rfl)
        rw [bases_next hlt rfl] at S1
        have own1 := row_far own (grown_set (World.grownBy.refl wr (some (w.heap.size + 1 + 1))) i (.int .i64 (baseAt sp ws i))) (by omega)
        have HS1 := hid S1
        have HO1 := hid own1
        have hzz : w1.heap.size + 1 ≤ (wr.setCell ⟨w.heap.size + 1 + 1, i, none⟩ (.int .i64 (baseAt sp ws i))).heap.size := by have := S1.2.2.2.2.2.1; omega
        have HZZ := hid hzz
        clear R sr own z2 hb hx hbx hp S1 own1 hzz hb6
        generalize baseAt sp ws i = y at *
        go_wp2_with (at_builtin; refine wpList_push eltIntS rfl (.tmp 38) (.tmp 40) rfl (w1.heap.size + 1) _ i _ HO1.out (by omega) HZZ.out _ _ rfl rfl (by simp [World.setCell]) rfl (fun q hq => oc1 _ q hq) ?_; intro A9 c9 w9 own9 gr9 at9)
        have F : Aside (Sh1 w (some ⟨b, off, none⟩) c sp ws w1.heap.size (i + 1) A9 c9 w9) := ⟨by rw [ESS.out]; exact HS1.out.grown gr9 (fun g hg => (HO1.out.lt g hg).1), by rw [List.range_succ, List.flatMap_append]; exact own9⟩
        clear own9 gr9 at9
        go_wp2
        go_roundg (ws.length - (i + 1))
        case measure => omega
        case rel => exact ⟨i + 1, c9, A9, by omega, by omega, rfl, by go_num, F⟩
      · obtain rfl : i = ws.length := by omega
        have hle := (slice_le own).1
        have hoa := OwnA.of_rowN (enc := encNat) (k := 1) (fun _ => rfl) (by simp) rfl own
        have hcmp : CmpOk (restAt sp ws) ws.length (w1.heap.size + 1) #[.pointer (some ⟨w.heap.size, 0, none⟩), .pointer (some ⟨w.heap.size + 1, 0, none⟩), .pointer (some ⟨w1.heap.size, 0, none⟩)] wr := fun W i k hb hi hk => by
          have sr' := sr.below hb
          obtain ⟨q2, q3, q6⟩ := sr'.cells
          have hx := List.getElem?_eq_getElem hi
          have hy := List.getElem?_eq_getElem hk
          have hc := shareCmp_any sp S _ _ i k w.heap.size (w.heap.size + 1) w1.heap.size ws.length c A ws W ⟨sp1, sp2⟩ hS rfl (by omega) hx hy (HW.out _ (List.getElem_mem hi)) (HW.out _ (List.getElem_mem hk)) q2 q3 q6 (H.out.next sr'.2.2.2.2.2.2)
          have e1 : restAt sp ws i = sp * ws[i] % S := by unfold restAt; rw [wAt_of hx, ESS.out]
          have e2 : restAt sp ws k = sp * ws[k] % S := by unfold restAt; rw [wAt_of hy, ESS.out]
          rw [e1, e2]
          exact hc
        have SORT := hid (sortStable_any (restAt sp ws) A7 ws.length c7 (w1.heap.size + 1) _ wr hl hl8 (by omega) hoa hcmp)
        have SR := hid sr
        clear R sr own hoa hcmp hb6
        go_wp2_with fail
        refine SORT.out.mono ?_
        rintro e w5 ⟨rfl, o5, b5⟩
        have sr5 := SR.out.below b5
        have O5 := hid o5
        obtain ⟨j2, j3, j6⟩ := sr5.cells
        have hA5 : Aside (ShRel w A ws.length c sp S w1.heap.size (bases sp ws) w5) := by
          have := sr5
          rw [List.take_of_length_le (by rw [bases_len]; exact Nat.le_refl _), Nat.sub_self, List.replicate_zero, List.append_nil] at this
          exact this
        have hb6 := sr5.1
        have hz5 := sr5.2.2.2.2.2.1
        obtain ⟨l1, l2⟩ := HLB.out
        have tot : ∀ n, Calls Try.prog 31 #[.slice (some ⟨w.heap.size + 1 + 1, 0, none⟩) ws.length ws.length] (w5.drewN n) fun e w' => e = .returned (.int .i64 (bases sp ws).sum) ∧ w' = w5.drewN n := fun n =>
          (total_any _ (bases sp ws) ws.length ws.length (w5.drewN n) (bases_len _ _).symm (by rw [bases_len]; omega) BS.out (show Arr w5 w5.heap.size 1 encI _ _ from hA5.2.2.2.2.1.arr)).mono fun _ _ ⟨h1, h2⟩ => ⟨h1, h2.symm⟩
        have hk0 : sp - (bases sp ws).sum = ((leftOf sp ws).toNat : Int) := by
          have : leftOf sp ws = sp - (bases sp ws).sum := rfl
          omega
        have hkn : (leftOf sp ws).toNat ≤ ws.length := by omega
        have hk : IntKind.i64.wrap (sp - (bases sp ws).sum) = ((leftOf sp ws).toNat : Int) := by rw [hk0]; exact IntWalk.i64_in _ (by omega)
        have R2 : ∀ n, Aside (Sh2 w A c sp ws w1.heap.size 0 A7 (w5.drewN n)) := fun n => ⟨by
          have := hA5.drewN n
          rw [ESS.out, shareTo_zero]
          exact this, O5.out⟩
        have HR2 := hid R2
        have HT := hid tot
        clear R2 tot hk0 hA5 sr5 l1 l2 o5 b5 hb6 SR SORT
        generalize (bases sp ws).sum = bs at *
        generalize hkk : (leftOf sp ws).toNat = k at *
        clear hkk
        have hkc : (k : Int) ≤ (c7 : Int) := by omega
        have hkc2 : k ≤ c7 := by omega
        have hkz : (0 : Int) ≤ (k : Int) := by omega
        go_wp2_with fail
        go_quiet ((go_at_call 31; exact Calls.quiet_of_same (HT.out _)))
        go_wp2
        go_loopg [11, 53] k (fun gg _ s53 wr => ∃ j : Nat, j ≤ k ∧ k - j ≤ gg ∧ s53 = .int .i64 j ∧ Aside (Sh2 w A c sp ws w1.heap.size j A7 wr))
        case atStart => exact ⟨0, Nat.zero_le _, by omega, rfl, HR2.out nq⟩
        case round =>
          obtain ⟨j, hj, hgg, rfl, R⟩ := hrel
          clear HR2
          obtain ⟨sr, own⟩ := R.out
          rw [ESS.out] at sr
          by_cases hlt : j < k
          · have hlo : j < (orderOf sp ws).length := by rw [(order_good sp ws).length]; omega
            have ho := List.getElem?_eq_getElem hlo
            generalize (orderOf sp ws)[j] = x at ho
            have hxl := order_at ho
            obtain ⟨hn1, hn2⟩ := shareTo_next ho
            obtain ⟨g7, o7, rfl, hg7, hg8, hc7, _⟩ := own.at_ ho
            have e7 : wr.cell? ⟨g7, o7 + j, none⟩ = some (.int .i64 x) := by simpa using hc7 0 _ rfl
            obtain ⟨z1, z2⟩ := sr.at_ hn2
            have z3 := z2 x
            have S1 := sr.set (x := baseAt sp ws x + 1) hn2
            rw [← hn1] at S1
            obtain ⟨y1, y2⟩ := base_le sp1 (smallI_w HW.out) (by rw [ESS.out]; exact hS) hxl
            have hb6 := sr.1
            have F : Aside (Sh2 w A c sp ws w1.heap.size (j + 1) (some ⟨g7, o7, none⟩) (wr.setCell ⟨w.heap.size + 1 + 1, x, none⟩ (.int .i64 (baseAt sp ws x + 1)))) :=
              ⟨by rw [ESS.out]; exact S1, own.apart (grown_set (World.grownBy.refl wr (some (w.heap.size + 1 + 1))) x _) (fun g e => by injection e with e; omega)⟩
            have x1 : (0 : Int) ≤ (x : Int) := by omega
            have x2 : (x : Int) < (ws.length : Int) := by omega
            clear R sr own ho hn1 hn2 hc7 z2 S1 hb6
            generalize baseAt sp ws x = y at *
            go_wp2
            go_roundg (k - (j + 1))
            case measure => omega
            case rel => exact ⟨j + 1, by omega, by omega, by go_num, F⟩
          · obtain rfl : j = k := by omega
            have SE := hid sr
            clear R sr own
            go_wp2
            go_ret
            exact SE.out.gives (by rw [shareTo_len]) (by omega)
end Go.Proofs.Ytjebjcabggmaiaa
