/- impl.WrapParts. -/
import Derived.Test.YtjkcejijdpmhoaaH4
import Derived.Test.YtjkcejijdpmhoaaM5
namespace Go.Proofs.Ytjkcejijdpmhoaa
open Go.RowKit Go.Lib

theorem eltRect : Elt Try.prog 44 47 4 32 := Elt.mk' Try.underlying44 (z := .agg #[.int .i64 0, .int .i64 0, .int .i64 0, .int .i64 0]) (by kernel_rfl) rfl (by omega) (by omega)

theorem part_kept {W w8 : World} {row : Option Nat} {e : TypeId} {u v : Value} (h : (W.alloc (.cells #[u, v] e)).grownBy w8 row) (hr : ∀ q, row = some q → q < W.heap.size) :
    w8.cell? ⟨W.heap.size, 0, none⟩ = some u ∧ w8.cell? ⟨W.heap.size, 1, none⟩ = some v := by
  have hb := (h.block W.heap.size (by simp) (fun e => by have := hr _ e.symm; omega)).trans (heap_alloc_new W _)
  exact ⟨by rw [cell_of_row _ W.heap.size _ _ e (0, 0) hb]; rfl, by rw [cell_of_row _ W.heap.size _ _ e (0, 0) hb]; rfl⟩

/-- The loops' relation on the world: the row that is out, and what is kept. -/
def ORel (w3 : World) (gap : Int) (ls : List (List (Int × Int))) (i : Nat) (l : List (Int × Int)) (k : Nat) (A9 : Option Addr) (n c9 : Nat) (wr : World) : Prop :=
  n = st ls i + k ∧ wr.ownsRow w3.heap.size 47 4 (.slice A9 n c9) n ((outAt gap ls i l k).flatMap encRect) ∧ Below w3.heap.size w3 wr

set_option maxHeartbeats 2000000 in
theorem wrapParts_any (A : Option Addr) (L : List (Int × Int)) (c : Nat) (width gap : Int) (w : World) (hL : L.length ≤ 1048576) (hc1 : L.length ≤ c) (hc2 : c ≤ maxLen) (h : Arr w w.heap.size 2 encP A L) :
    Calls Try.prog 39 #[.slice A L.length c, .int .i64 width, .int .i64 gap] w (Gives 4 encRect (rectsOf L width gap) w) := by
  have hk := linesOk_any A L c width gap w (by omega) h
  have H := hid h
  clear h
  cases hq : okL L width gap with
  | false =>
    have e : rectsOf L width gap = [] := by simp [rectsOf, hq]
    rw [e]
    rw [hq] at hk
    clear hq e
    go_enter Try.func39, Try.ntmps39
    go_wp2_with fail
    refine hk.mono ?_
    rintro e w' ⟨rfl, hb⟩
    have HB := hid hb
    clear hb hk
    go_wp2
    go_ret
    exact ⟨none, 0, rfl, by simp, by simp [maxLen], fun h => absurd h (by simp), HB.out⟩
  | true =>
    have e : rectsOf L width gap = (rowsOf gap (lines width gap L)).flatten := by simp [rectsOf, hq]
    have hrl := rects_len hq
    rw [e] at hrl
    rw [e]
    obtain ⟨hv, hw, hg⟩ := okL_bd hq
    rw [hq] at hk
    clear hq e
    have HV := hid hv
    have HW := hid hw
    have HG := hid hg
    have hls := lines_len width gap L.length L (Nat.le_refl _)
    have hl12 : L.length ≤ 12 := (validL_iff.1 HV.out).1
    have HOK := hid (lines_ok (width := width) (gap := gap) (validL_iff.1 hv).2)
    have HSE := hid (st_end width gap L)
    have HRL := hid hrl
    have HTE := hid (show (lines width gap L).map tall = talls width gap L from rfl)
    have HMEM := hid (lines_mem width gap L.length L (Nat.le_refl _))
    have HSTL := hid (fun i l (h : (lines width gap L)[i]? = some l) => st_le h)
    have hwr := fun w1 h1 => wrapped_any A L c width gap w1 HV.out HW.out HG.out hc1 hc2 h1
    obtain ⟨hg0, hg1⟩ := hg
    clear hv hw hrl
    generalize lines width gap L = ls at *
    have HWR := hid hwr
    clear hwr
    go_enter Try.func39, Try.ntmps39
    go_wp2_with fail
    refine hk.mono ?_
    rintro e w1 ⟨rfl, hb1⟩
    have HB1 := hid hb1
    have hwr := HWR.out w1 (H.out.next hb1)
    clear hb1 hk
    go_wp2_with fail
    refine hwr.mono ?_
    rintro e w2 ⟨A2, c2, vs, rfl, hvl, o2, l2, hb2⟩
    have hh := heights_any A2 vs ls c2 w2 (by omega) (fun l hl => by have := HMEM.out l hl; omega) o2.arr (l2.next2 hb2 (Nat.le_refl _))
    have HB2 := hid (chain HB1.out hb2)
    have L2 := hid (l2.next2 hb2 (Nat.le_refl _))
    have V2 := hid o2.arr
    have HVL := hid hvl
    clear hwr o2 l2 hb2 HWR hvl
    go_wp2_with fail
    refine hh.mono ?_
    rintro e w3 ⟨A3, c3, rfl, h31, h32, o3, hb3⟩
    have HB3 := hid (chain HB2.out hb3)
    have L3 := hid (L2.out.next hb3)
    have V3 := hid (V2.out.next hb3)
    have T3 := hid o3.arr
    have hlt : (ls.map tall).length = ls.length := by simp
    have HLT := hid hlt
    rw [hlt]
    clear hh o3 hb3 h31 h32 V2 L2 hlt
    go_wp2_with (first | (at_make; refine wpList_make0 _ eltRect rfl _ (.tmp 28) rfl L.length rfl rfl (by omega) ?_; intro w4 own4 hb4) | fail)
    have R0 : Aside (ORel w3 gap ls 0 [] 0 (some ⟨w3.heap.size, 0, none⟩) 0 L.length w4) := ⟨rfl, by simpa [outAt_zero] using own4, hb4⟩
    clear own4 hb4
    go_wp2
    go_loopg [9, 10, 32] ls.length (fun gg s9 s10 s32 wr => ∃ (i n c9 : Nat) (A9 : Option Addr) (y : Int), i ≤ ls.length ∧ ls.length - i ≤ gg ∧ s9 = .slice A9 n c9 ∧ s10 = .int .i64 y ∧ s32 = .int .i64 i ∧ Aside (y = yAt gap ls i) ∧ Aside (ORel w3 gap ls i [] 0 A9 n c9 wr))
    case atStart => exact ⟨0, _, _, _, 0, Nat.zero_le _, by omega, rfl, rfl, rfl, rfl, R0⟩
    case round =>
      obtain ⟨i, n, c9, A9, y, hi, hgg, rfl, rfl, rfl, Y, R⟩ := hrel
      clear R0
      have hyb := yAt_bd (gap := gap) ⟨hg0, hg1⟩ HOK.out i
      rw [← Y.out] at hyb
      obtain ⟨hy0, hy1⟩ := hyb
      by_cases hlt : i < ls.length
      · obtain ⟨Al, cl, l, hv, hl, hal⟩ := L3.out.at_ (show i < vs.length by rw [HVL.out]; exact hlt)
        obtain ⟨b, off, rfl, hb, c1⟩ := V3.out.atV hv
        have c1' := (R.out.2.2.cell (p := ⟨b, off + i, none⟩) hb).trans c1
        obtain ⟨bt, offt, t, rfl, hbt, ht, ct⟩ := T3.out.at1 (show i < (ls.map tall).length by rw [HLT.out]; exact hlt)
        have ht' : t = tall l := by
          rw [List.getElem?_map, hl] at ht
          simpa using ht.symm
        have hokl := HOK.out l (List.mem_of_getElem? hl)
        have htb := tall_bd hokl
        rw [← ht'] at htb
        obtain ⟨ht0, ht1⟩ := htb
        have hll := (HMEM.out l (List.mem_of_getElem? hl)).2
        have hstl := HSTL.out i l hl
        have HAL := hid hal
        have HLl := hid hl
        have HOKL := hid hokl
        have HT := hid ht'
        have CT := hid ct
        clear hv hl hal c1 ht ht' hokl ct
        have R1 : Aside (ORel w3 gap ls i l 0 A9 n c9 wr) := R.out
        go_wp2
        go_loopg [9, 13, 39] l.length (fun gg s9 s13 s39 wr => ∃ (k n c9 : Nat) (A9 : Option Addr) (x : Int), k ≤ l.length ∧ l.length - k ≤ gg ∧ s9 = .slice A9 n c9 ∧ s13 = .int .i64 x ∧ s39 = .int .i64 k ∧ Aside (x = xAt gap l k) ∧ Aside (ORel w3 gap ls i l k A9 n c9 wr))
        case atStart => exact ⟨0, _, _, _, 0, Nat.zero_le _, by omega, rfl, rfl, rfl, rfl, R1⟩
        case round =>
          obtain ⟨k, n, c9, A9, x, hk, hgk, rfl, rfl, rfl, X, R2⟩ := hrel
          clear R R1
          have hxb := xAt_bd (gap := gap) ⟨hg0, hg1⟩ HOKL.out k
          rw [← X.out] at hxb
          obtain ⟨hx0, hx1⟩ := hxb
          have hsz := R2.out.2.2.size
          by_cases hkl : k < l.length
          · obtain ⟨b2, off2, u, v, rfl, hb2, hp, q1, q2⟩ := (HAL.out.below R2.out.2.2).at2 hkl
            have hu := (okP_bd (HOKL.out _ (List.mem_of_getElem? hp))).1
            have hu0 : 0 ≤ u := hu.1
            have hu1 : u ≤ 10000 := hu.2
            have HP := hid hp
            have hn : n ≤ 1000000 := by have := R2.out.1; omega
            clear hp hu
            go_wp2_with (at_builtin; refine wpList_push eltRect rfl _ _ rfl w3.heap.size _ n _ (R2.out.2.1.alloc _) hn (Nat.le_trans hsz (by simp)) (wr.heap.size + 1) _ rfl rfl (by simp) rfl (fun q hq => ocRect ⟨x, y, u, v⟩ q hq) ?_; intro A8 c8 w8 own8 gr8 at8; obtain ⟨d1, d2⟩ := part_kept gr8 (fun q hq => (R2.out.2.1.lt q hq).2); have O8 := hid own8; have G8 := hid gr8; clear own8 gr8 at8)
            go_roundg (l.length - (k + 1))
            case measure => omega
            case rel =>
              refine ⟨k + 1, n + 1, c8, A8, x + (u + gap), by omega, by omega, rfl, by go_num, by go_num, ?_, ?_, ?_, ?_⟩
              · show _ = _
                rw [xAt_next HP.out, X.out]
              · rw [R2.out.1]
                omega
              · rw [outAt_next HP.out, List.flatMap_append, ← X.out, ← Y.out]
                exact O8.out
              · exact (R2.out.2.2.alloc hsz _).grown G8.out (Nat.le_trans hsz (by simp)) (fun q hq => (R2.out.2.1.lt q hq).1)
          · have hkl' : k = l.length := by omega
            subst hkl'
            have ct' := (R2.out.2.2.cell (p := ⟨bt, offt + i, none⟩) hbt).trans CT.out
            go_wp2
            go_roundg (ls.length - (i + 1))
            case measure => omega
            case rel =>
              refine ⟨i + 1, n, c9, A9, y + (t + gap), by omega, by omega, rfl, by go_num, by go_num, ?_, ?_, ?_, R2.out.2.2⟩
              · show _ = _
                rw [yAt_next HLl.out, Y.out, HT.out]
              · rw [st_next HLl.out, R2.out.1]
                rfl
              · rw [outAt_line HLl.out]
                exact R2.out.2.1
      · have hiv : i = ls.length := by omega
        subst hiv
        have HR := hid R.out
        clear R
        go_wp2
        go_ret
        have hn : n = (rowsOf gap ls).flatten.length := by rw [HRL.out, HR.out.1, HSE.out]; rfl
        have hr := HR.out.2.1
        rw [outAt_end] at hr
        refine ⟨A9, c9, by rw [← hn]; rfl, by rw [← hn]; exact (slice_le HR.out.2.1).1, (slice_le HR.out.2.1).2, ?_, chain HB3.out HR.out.2.2⟩
        exact (OwnA.of_rowN (enc := encRect) (k := 4) (fun _ => rfl) hn rfl hr).less HB3.out.size
end Go.Proofs.Ytjkcejijdpmhoaa
