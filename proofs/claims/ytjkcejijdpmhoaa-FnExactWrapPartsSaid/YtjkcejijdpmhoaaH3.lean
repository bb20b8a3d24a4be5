/- spec.LineHeights, spec.WrapHeight. -/
import Derived.Test.YtjkcejijdpmhoaaH2
namespace Go.Proofs.Ytjkcejijdpmhoaa
open Go.RowKit Go.Lib

theorem st_le {width gap : Int} {L l : List (Int × Int)} {i : Nat} (h : (lines width gap L)[i]? = some l) : st (lines width gap L) i + l.length ≤ L.length := by
  rw [← st_next h]
  unfold st
  have h1 : ((lines width gap L).take (i + 1)).flatten.length ≤ (lines width gap L).flatten.length := by
    conv => rhs; rw [← List.take_append_drop (i + 1) (lines width gap L), List.flatten_append, List.length_append]
    omega
  rw [lines_flat] at h1
  exact h1

set_option maxHeartbeats 2000000 in
theorem specLineHeights_any (A : Option Addr) (L : List (Int × Int)) (c : Nat) (width gap : Int) (w : World) (hL : L.length ≤ 1048576) (h : Arr w w.heap.size 2 encP A L) :
    Calls Try.prog 36 #[.slice A L.length c, .int .i64 width, .int .i64 gap] w (Gives 1 encI (heightsOf L width gap) w) := by
  have hk := fun w' (hb : Below w.heap.size w w') => validWrap_any A L c width gap w' (by omega) (h.next hb)
  have H := hid h
  have R0 : ∀ wr o, wr = w.alloc o → o = .cells #[] 3 → Aside (wr.ownsRow w.heap.size 3 1 (.slice (some ⟨w.heap.size, 0, none⟩) 0 0) 0 (((talls width gap L).take 0).flatMap encI) ∧ Below w.heap.size w wr) := fun wr o e1 e2 => by
    subst e1 e2
    exact ⟨World.ownsRow_made w #[] 0 (Nat.le_refl _) (by simp [maxLen]) rfl, (Below.refl _ _).alloc (Nat.le_refl _) _⟩
  clear h
  cases hq : okL L width gap with
  | false =>
    have e : heightsOf L width gap = [] := by simp [heightsOf, hq]
    rw [e]
    rw [hq] at hk
    clear hq e
    go_enter Try.func36, Try.ntmps36
    go_wp2_with fail
    refine (hk _ (R0 _ _ rfl rfl).out.2).mono ?_
    rintro e w' ⟨rfl, rfl⟩
    have HB := hid (R0 _ _ rfl rfl).out.2
    clear hk
    go_wp2
    go_ret
    exact ⟨none, 0, rfl, by simp, by simp [maxLen], fun h => absurd h (by simp), HB.out⟩
  | true =>
    have e : heightsOf L width gap = talls width gap L := by simp [heightsOf, hq]
    rw [e]
    obtain ⟨hv, hw, hg⟩ := okL_bd hq
    rw [hq] at hk
    clear hq e
    have HV := hid hv
    have hl12 : L.length ≤ 12 := (validL_iff.1 HV.out).1
    have HOK := hid (validL_iff.1 hv).2
    have hsc := fun w' (hb : Below w.heap.size w w') => specCounts_any A L c width gap w' hv hw hg (H.out.next hb)
    clear hv hw hg
    go_enter Try.func36, Try.ntmps36
    go_wp2_with fail
    refine (hk _ (R0 _ _ rfl rfl).out.2).mono ?_
    rintro e w1 ⟨rfl, hw1⟩
    have R1 := R0 _ _ hw1.symm rfl
    clear hk R0 hw1
    have hs := hsc _ R1.out.2
    clear hsc
    go_wp2_with fail
    refine hs.mono ?_
    rintro e w2 ⟨A2, c2, rfl, -, -, o2, b2⟩
    have own2 := row_next R1.out.1 b2
    have sz1 : w.heap.size < w1.heap.size := (R1.out.1.lt w.heap.size rfl).2
    have sz2 := b2.size
    have HB2 := hid (R1.out.2.trans (b2.mono R1.out.2.size))
    have O2 := hid o2
    have A2lt := hid o2.lt
    have hcl : (cnt width gap L).length = (lines width gap L).length := by simp [cnt]
    have hcl2 : (lines width gap L).length ≤ L.length := lines_len width gap L.length L (Nat.le_refl _)
    have HO := hid own2
    have HCL := hid hcl
    clear hs o2 b2 own2 R1
    rw [hcl]
    clear hcl
    go_wp2
    go_loopg [7, 9, 10] (lines width gap L).length (fun gg s7 s9 s10 wr => ∃ (i : Nat) (A7 : Option Addr) (c7 p : Nat), i ≤ (lines width gap L).length ∧ (lines width gap L).length - i ≤ gg ∧ s7 = .slice A7 i c7 ∧ s9 = .int .i64 p ∧ s10 = .int .i64 i ∧ Aside (p = st (lines width gap L) i) ∧ Aside (wr.ownsRow w.heap.size 3 1 (.slice A7 i c7) i (((talls width gap L).take i).flatMap encI) ∧ Below w.heap.size w wr ∧ OwnA wr w1.heap.size 1 encI A2 (cnt width gap L) ∧ w2.heap.size ≤ wr.heap.size ∧ (∀ q, (Value.slice A7 i c7).ownBlock = some q → q < w1.heap.size ∨ w2.heap.size ≤ q)))
    case atStart => exact ⟨0, _, _, 0, Nat.zero_le _, by omega, rfl, rfl, rfl, rfl, HO.out, HB2.out, O2.out, Nat.le_refl _, fun q hq => by simp [Value.ownBlock] at hq; exact .inl (by omega)⟩
    case round =>
      obtain ⟨i, A7, c7, p, hi, hgg, rfl, rfl, rfl, S, R⟩ := hrel
      clear HO
      by_cases hlt : i < (lines width gap L).length
      · obtain ⟨l, hl⟩ : ∃ l, (lines width gap L)[i]? = some l := ⟨_, List.getElem?_eq_getElem hlt⟩
        have hcn := cnt_at hl
        obtain ⟨b, off, x, rfl, hb, hx, c1⟩ := R.out.2.2.1.arr.at1 (show i < (cnt width gap L).length by rw [HCL.out]; exact hlt)
        have e := hx.symm.trans hcn
        injection e with e
        subst e
        have hsl := st_le hl
        rw [← S.out] at hsl
        have hpos := lines_pos (List.mem_of_getElem? hl)
        have HLl := hid hl
        have hp0 : 0 < L.length := by omega
        obtain ⟨b0, off0, x0, y0, rfl, -, -, -, -⟩ := H.out.at2 hp0
        clear hl hcn hx
        go_wp2
        go_loop [11, 12] (fun s11 s12 => ∃ (k : Nat) (m : Int), k ≤ l.length ∧ s11 = .int .i64 m ∧ s12 = .int .i64 k ∧ Aside (m = tall (l.take k))) (fun _ s12 => l.length - (intOf s12).toNat)
        case atStart => exact ⟨0, 0, Nat.zero_le _, rfl, rfl, rfl⟩
        case round =>
          obtain ⟨k, m, hk, rfl, rfl, M⟩ := hrel
          by_cases hkl : k < l.length
          · obtain ⟨x, y, hx, q1, q2, hbb⟩ := (H.out.below R.out.2.1).lit2 (show p + k < L.length by omega)
            have hlk : l[k]? = some (x, y) := by rw [← line_at HLl.out hkl, ← S.out]; exact hx
            have HLK := hid hlk
            clear hx hlk
            go_wp2
            all_goals
              go_round
              case measure => simp [intOf]; omega
              case rel =>
                refine ⟨k + 1, _, by omega, rfl, by go_num, ?_⟩
                have e := tall_take HLK.out
                rw [← M.out] at e
                simp only at e
                show _ = _
                omega
          · have hkl' : k = l.length := by omega
            subst hkl'
            have hm := M.out
            rw [List.take_length] at hm
            have HM := hid hm
            have HR := hid R.out
            have hsz := R.out.2.1.size
            clear hm R
            go_wp2_with (at_builtin; refine wpList_push eltInt rfl _ _ rfl w.heap.size _ i _ HR.out.1 (by omega) hsz _ _ rfl rfl rfl rfl (oc1 _) ?_; intro A8 c8 w8 own8 gr8 at8)
            go_roundg ((lines width gap L).length - (i + 1))
            case measure => omega
            case rel =>
              refine ⟨i + 1, A8, c8, p + l.length, by omega, by omega, rfl, by go_num, by go_num, ?_, ?_, HR.out.2.1.grown gr8 hsz (fun g hg => (HR.out.1.lt g hg).1), HR.out.2.2.1.far A2lt.out gr8 HR.out.2.2.2.2, Nat.le_trans HR.out.2.2.2.1 gr8.size, ?_⟩
              · show _ = _
                rw [st_next HLl.out, S.out]
              · have hc : (talls width gap L)[i]? = some m := by unfold talls; rw [List.getElem?_map, HLl.out, HM.out]; rfl
                rw [take_next hc, List.flatMap_append]
                exact own8
              · intro q hq
                rcases at8 q hq with h | h
                · exact HR.out.2.2.2.2 q h
                · exact .inr (Nat.le_trans HR.out.2.2.2.1 h)
      · have hiv : i = (lines width gap L).length := by omega
        have HR := hid R.out
        clear R
        go_wp2
        go_ret
        have hlen : (talls width gap L).length = i := by rw [hiv]; simp [talls]
        have hfull : (talls width gap L).take i = talls width gap L := by rw [← hlen, List.take_length]
        refine ⟨A7, c7, by rw [hlen]; rfl, by rw [hlen]; exact (slice_le HR.out.1).1, (slice_le HR.out.1).2, ?_, HR.out.2.1⟩
        have hr := HR.out.1
        rw [hfull] at hr
        exact OwnA.of_rowN (enc := encI) (k := 1) (fun _ => rfl) hlen.symm rfl hr
end Go.Proofs.Ytjkcejijdpmhoaa
