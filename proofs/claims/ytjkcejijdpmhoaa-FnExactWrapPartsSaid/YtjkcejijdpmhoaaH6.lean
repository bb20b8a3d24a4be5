/- spec.WrapParts. -/
import Derived.Test.YtjkcejijdpmhoaaH5
namespace Go.Proofs.Ytjkcejijdpmhoaa
open Go.RowKit Go.Lib

/-- The loops' relation on the world. -/
def SRel (w w1 w2 w3 : World) (gap : Int) (ls : List (List (Int × Int))) (C T : List Int) (A2 A3 : Option Addr) (i : Nat) (l : List (Int × Int)) (k : Nat) (A9 : Option Addr) (n c9 : Nat) (wr : World) : Prop :=
  n = st ls i + k ∧ wr.ownsRow w.heap.size 47 4 (.slice A9 n c9) n ((outAt gap ls i l k).flatMap encRect) ∧ Below w.heap.size w wr ∧
    OwnA wr w1.heap.size 1 encI A2 C ∧ OwnA wr w2.heap.size 1 encI A3 T ∧ w3.heap.size ≤ wr.heap.size ∧ (∀ q, (Value.slice A9 n c9).ownBlock = some q → q < w1.heap.size ∨ w3.heap.size ≤ q)

theorem talls_at {width gap : Int} {L l : List (Int × Int)} {i : Nat} (h : (lines width gap L)[i]? = some l) : (talls width gap L)[i]? = some (tall l) := by
  unfold talls
  rw [List.getElem?_map, h]
  rfl

set_option maxHeartbeats 4000000 in
theorem specWrapParts_any (A : Option Addr) (L : List (Int × Int)) (c : Nat) (width gap : Int) (w : World) (hL : L.length ≤ 1048576) (h : Arr w w.heap.size 2 encP A L) :
    Calls Try.prog 42 #[.slice A L.length c, .int .i64 width, .int .i64 gap] w (Gives 4 encRect (rectsOf L width gap) w) := by
  have hk := fun w' (hb : Below w.heap.size w w') => validWrap_any A L c width gap w' (by omega) (h.next hb)
  have H := hid h
  have R0 : ∀ wr o, wr = w.alloc o → o = .cells #[] 47 → Aside (wr.ownsRow w.heap.size 47 4 (.slice (some ⟨w.heap.size, 0, none⟩) 0 0) 0 [] ∧ Below w.heap.size w wr) := fun wr o e1 e2 => by
    subst e1 e2
    exact ⟨World.ownsRow_made w #[] 0 (Nat.le_refl _) (by simp [maxLen]) rfl, (Below.refl _ _).alloc (Nat.le_refl _) _⟩
  clear h
  cases hq : okL L width gap with
  | false =>
    have e : rectsOf L width gap = [] := by simp [rectsOf, hq]
    rw [e]
    rw [hq] at hk
    clear hq e
    go_enter Try.func42, Try.ntmps42
    go_wp2_with fail
    refine (hk _ (R0 _ _ rfl rfl).out.2).mono ?_
    rintro e w' ⟨rfl, rfl⟩
    have HB := hid (R0 _ _ rfl rfl).out.2
    clear hk
    go_wp2
    go_ret
    exact ⟨none, 0, rfl, by simp, by simp [maxLen], fun h => absurd h (by simp), HB.out⟩
  | true =>
    have e : rectsOf L width gap = (rowsOf gap (lines width gap L)).flatten := by simp [rectsOf, hq]
    have eh : heightsOf L width gap = talls width gap L := by simp [heightsOf, hq]
    have hrl := rects_len hq
    rw [e] at hrl
    rw [e]
    obtain ⟨hv, hw, hg⟩ := okL_bd hq
    rw [hq] at hk
    clear hq e
    have HV := hid hv
    have hl12 : L.length ≤ 12 := (validL_iff.1 HV.out).1
    have HOKP := hid (validL_iff.1 hv).2
    have HOK := hid (lines_ok (width := width) (gap := gap) (validL_iff.1 hv).2)
    have HSE := hid (st_end width gap L)
    have HRL := hid hrl
    have hsc := fun w' (hb : Below w.heap.size w w') => specCounts_any A L c width gap w' hv hw hg (H.out.next hb)
    have hsh := fun w' (hb : Below w.heap.size w w') => specLineHeights_any A L c width gap w' hL (H.out.next hb)
    rw [eh] at hsh
    have HSH := hid hsh
    obtain ⟨hg0, hg1⟩ := hg
    clear hv hw hrl eh hsh
    go_enter Try.func42, Try.ntmps42
    go_wp2_with fail
    refine (hk _ (R0 _ _ rfl rfl).out.2).mono ?_
    rintro e w1 ⟨rfl, hw1⟩
    have R1 := R0 _ _ hw1.symm rfl
    clear hk R0 hw1
    have hs := hsc _ R1.out.2
    clear hsc
    go_wp2_with fail
    refine hs.mono ?_
    rintro e w2 ⟨A2, c2, rfl, -, -, o2, b2⟩
    have own2 := hid (row_next R1.out.1 b2)
    have sz1 : w.heap.size < w1.heap.size := (R1.out.1.lt w.heap.size rfl).2
    have sz2 := b2.size
    have HB2 := hid (R1.out.2.trans (b2.mono R1.out.2.size))
    have hh := HSH.out w2 HB2.out
    have O2 := hid o2
    clear hs o2 b2
    go_wp2_with fail
    refine hh.mono ?_
    rintro e w3 ⟨A3, c3, rfl, -, -, o3, b3⟩
    have own3 := hid (row_next own2.out b3)
    have sz3 := b3.size
    have HB3 := hid (HB2.out.trans (b3.mono HB2.out.size))
    have O23 := hid (O2.out.next b3)
    have O3 := hid o3
    have A2lt := hid (OwnA.lt O23.out)
    have A3lt := hid (OwnA.lt O3.out)
    have hcl : (cnt width gap L).length = (lines width gap L).length := by simp [cnt]
    have htl : (talls width gap L).length = (lines width gap L).length := by simp [talls]
    have hcl2 : (lines width gap L).length ≤ L.length := lines_len width gap L.length L (Nat.le_refl _)
    have HCL := hid hcl
    have HTL := hid htl
    have R0 : Aside (SRel w w1 w2 w3 gap (lines width gap L) (cnt width gap L) (talls width gap L) A2 A3 0 [] 0 (some ⟨w.heap.size, 0, none⟩) 0 0 w3) := ⟨rfl, by simpa [outAt_zero] using own3.out, HB3.out, O23.out, O3.out, Nat.le_refl _, fun q hq => by simp [Value.ownBlock] at hq; exact .inl (by omega)⟩
    clear hh o3 b3 own2 own3 R1 HB2 O2 O23 O3 HSH
    rw [hcl, htl]
    clear hcl htl
    go_wp2
    go_loopg [7, 10, 11, 12] (lines width gap L).length (fun gg s7 s10 s11 s12 wr => ∃ (i n c9 p : Nat) (A9 : Option Addr) (y : Int), i ≤ (lines width gap L).length ∧ (lines width gap L).length - i ≤ gg ∧ s7 = .slice A9 n c9 ∧ s10 = .int .i64 p ∧ s11 = .int .i64 y ∧ s12 = .int .i64 i ∧ Aside (p = st (lines width gap L) i) ∧ Aside (y = yAt gap (lines width gap L) i) ∧ Aside (SRel w w1 w2 w3 gap (lines width gap L) (cnt width gap L) (talls width gap L) A2 A3 i [] 0 A9 n c9 wr))
    case atStart => exact ⟨0, _, _, 0, _, 0, Nat.zero_le _, by omega, rfl, rfl, rfl, rfl, rfl, rfl, R0⟩
    case round =>
      obtain ⟨i, n, c9, p, A9, y, hi, hgg, rfl, rfl, rfl, rfl, P, Y, R⟩ := hrel
      clear R0
      have hyb := yAt_bd (gap := gap) ⟨hg0, hg1⟩ HOK.out i
      rw [← Y.out] at hyb
      obtain ⟨hy0, hy1⟩ := hyb
      by_cases hlt : i < (lines width gap L).length
      · obtain ⟨l, hl⟩ : ∃ l, (lines width gap L)[i]? = some l := ⟨_, List.getElem?_eq_getElem hlt⟩
        have hic : i < (cnt width gap L).length := by rw [HCL.out]; exact hlt
        have hit : i < (talls width gap L).length := by rw [HTL.out]; exact hlt
        obtain ⟨b, off, ci, rfl, -, hx, -⟩ := R.out.2.2.2.1.arr.at1 hic
        obtain ⟨bt, offt, t, rfl, -, ht, -⟩ := R.out.2.2.2.2.1.arr.at1 hit
        have e := hx.symm.trans (cnt_at hl)
        injection e with e
        subst e
        have e := ht.symm.trans (talls_at hl)
        injection e with e
        have hsl := st_le hl
        rw [← P.out] at hsl
        have hpos := lines_pos (List.mem_of_getElem? hl)
        have hokl := HOK.out l (List.mem_of_getElem? hl)
        have htb := tall_bd hokl
        rw [← e] at htb
        obtain ⟨ht0, ht1⟩ := htb
        have HLl := hid hl
        have HOKL := hid hokl
        have HTT := hid e
        have HX := hid hx
        have HT := hid ht
        have hp0 : 0 < L.length := by omega
        obtain ⟨b0, off0, x0, y0, rfl, -, -, -, -⟩ := H.out.at2 hp0
        have R1 : Aside (SRel w w1 w2 w3 gap (lines width gap L) (cnt width gap L) (talls width gap L) (some ⟨b, off, none⟩) (some ⟨bt, offt, none⟩) i l 0 A9 n c9 wr) := R.out
        clear hl hx ht e hokl R
        go_wp2
        go_loopg [7, 13, 14] l.length (fun gg s7 s13 s14 wr => ∃ (k n c9 : Nat) (A9 : Option Addr) (x : Int), k ≤ l.length ∧ l.length - k ≤ gg ∧ s7 = .slice A9 n c9 ∧ s13 = .int .i64 x ∧ s14 = .int .i64 k ∧ Aside (x = xAt gap l k) ∧ Aside (SRel w w1 w2 w3 gap (lines width gap L) (cnt width gap L) (talls width gap L) (some ⟨b, off, none⟩) (some ⟨bt, offt, none⟩) i l k A9 n c9 wr))
        case atStart => exact ⟨0, _, _, _, 0, Nat.zero_le _, by omega, rfl, rfl, rfl, rfl, R1⟩
        case round =>
          obtain ⟨k, n, c9, A9, x, hk, hgk, rfl, rfl, rfl, X, R2⟩ := hrel
          clear R1
          have hxb := xAt_bd (gap := gap) ⟨hg0, hg1⟩ HOKL.out k
          rw [← X.out] at hxb
          obtain ⟨hx0, hx1⟩ := hxb
          have hsz := R2.out.2.2.1.size
          obtain ⟨x', hx', q1, hgb⟩ := R2.out.2.2.2.1.arr.lit1 hic
          have e := HX.out.symm.trans hx'
          injection e with e
          subst e
          clear hx'
          by_cases hkl : k < l.length
          · obtain ⟨u, v, hx, r1, r2, hbb⟩ := (H.out.below R2.out.2.2.1).lit2 (show p + k < L.length by omega)
            have hlk : l[k]? = some (u, v) := by rw [← line_at HLl.out hkl, ← P.out]; exact hx
            have hu := (okP_bd (HOKL.out _ (List.mem_of_getElem? hlk))).1
            have hu0 : 0 ≤ u := hu.1
            have hu1 : u ≤ 10000 := hu.2
            have HP := hid hlk
            have hn : n ≤ 1000000 := by have := R2.out.1; have := P.out; omega
            clear hlk hx hu
            go_wp2_with (at_builtin; refine wpList_push eltRect rfl _ _ rfl w.heap.size _ n _ (R2.out.2.1.alloc _) hn (Nat.le_trans hsz (by simp)) (wr.heap.size + 1) _ rfl rfl (by simp) rfl (fun q hq => ocRect ⟨x, y, u, v⟩ q hq) ?_; intro A8 c8 w8 own8 gr8 at8; obtain ⟨d1, d2⟩ := part_kept gr8 (fun q hq => (R2.out.2.1.lt q hq).2); have O8 := hid own8; have G8 := hid gr8; have A8 := hid at8; clear own8 gr8 at8)
            go_roundg (l.length - (k + 1))
            case measure => omega
            case rel =>
              have ba := below_al (Below.refl wr.heap.size wr) rfl (.cells #[.int .i64 u, .int .i64 v] 38)
              have sa : wr.heap.size ≤ (wr.alloc (.cells #[.int .i64 u, .int .i64 v] 38)).heap.size := ba.size
              refine ⟨k + 1, n + 1, c8, _, x + (u + gap), by omega, by omega, rfl, by go_num, by go_num, ?_, ?_, ?_, ?_, ?_, ?_, ?_, ?_⟩
              · show _ = _
                rw [xAt_next HP.out, X.out]
              · rw [R2.out.1]
                omega
              · rw [outAt_next HP.out, List.flatMap_append, ← X.out, ← Y.out]
                exact O8.out
              · exact (R2.out.2.2.1.alloc hsz _).grown G8.out (Nat.le_trans hsz sa) (fun q hq => (R2.out.2.1.lt q hq).1)
              · exact (R2.out.2.2.2.1.next ba).far (hi := w3.heap.size) A2lt.out G8.out R2.out.2.2.2.2.2.2
              · exact (R2.out.2.2.2.2.1.next ba).far (hi := w3.heap.size) A3lt.out G8.out (fun q hq => (R2.out.2.2.2.2.2.2 q hq).imp (fun h => by omega) id)
              · exact Nat.le_trans R2.out.2.2.2.2.2.1 (Nat.le_trans sa G8.out.size)
              · intro q hq
                rcases A8.out q hq with h | h
                · exact R2.out.2.2.2.2.2.2 q h
                · exact .inr (Nat.le_trans R2.out.2.2.2.2.2.1 (Nat.le_trans sa h))
          · have hkl' : k = l.length := by omega
            subst hkl'
            obtain ⟨x', hx', q2, hgb2⟩ := R2.out.2.2.2.2.1.arr.lit1 hit
            have e := HT.out.symm.trans hx'
            injection e with e
            subst e
            clear hx'
            go_wp2
            go_roundg ((lines width gap L).length - (i + 1))
            case measure => omega
            case rel =>
              refine ⟨i + 1, n, c9, p + l.length, A9, y + (t + gap), by omega, by omega, rfl, by go_num, by go_num, by go_num, ?_, ?_, ?_, ?_, R2.out.2.2⟩
              · show _ = _
                rw [st_next HLl.out, P.out]
              · show _ = _
                rw [yAt_next HLl.out, Y.out, HTT.out]
              · rw [st_next HLl.out, R2.out.1]
                rfl
              · rw [outAt_line HLl.out]
                exact R2.out.2.1
      · have hiv : i = (lines width gap L).length := by omega
        have HR := hid R.out
        clear R
        go_wp2
        go_ret
        have hn : n = (rowsOf gap (lines width gap L)).flatten.length := by rw [HRL.out, HR.out.1, hiv, HSE.out]; rfl
        have hr := HR.out.2.1
        rw [hiv, outAt_end] at hr
        refine ⟨A9, c9, by rw [← hn]; rfl, by rw [← hn]; exact (slice_le HR.out.2.1).1, (slice_le HR.out.2.1).2, ?_, HR.out.2.2.1⟩
        exact OwnA.of_rowN (enc := encRect) (k := 4) (fun _ => rfl) hn rfl hr
end Go.Proofs.Ytjkcejijdpmhoaa
