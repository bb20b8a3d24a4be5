/- impl.heights. -/
import Derived.Test.YtjkcejijdpmhoaaC3
import Derived.Test.YtjkcejijdpmhoaaM3
namespace Go.Proofs.Ytjkcejijdpmhoaa
open Go.RowKit Go.Lib

theorem LinesAt.next2 {B : Nat} {w w' : World} {vs : List Value} {ls : List (List (Int × Int))} (h : LinesAt w' B vs ls) (hb : Below B w w') (hB : B ≤ w.heap.size) : LinesAt w' w'.heap.size vs ls :=
  ⟨h.1, fun i v hv => by obtain ⟨A, c, l, h1, h2, h3⟩ := h.2 i v hv; exact ⟨A, c, l, h1, h2, h3.more (Nat.le_trans hB hb.size)⟩⟩

set_option maxHeartbeats 1000000 in
theorem heights_any (A : Option Addr) (vs : List Value) (ls : List (List (Int × Int))) (c : Nat) (w : World) (hn : ls.length ≤ 1000000) (hs : ∀ l ∈ ls, l.length ≤ 1000000) (h : Arr w w.heap.size 1 encV A vs) (hl : LinesAt w w.heap.size vs ls) :
    Calls Try.prog 63 #[.slice A ls.length c] w (Gives 1 encI (ls.map tall) w) := by
  have H := hid h
  have HL := hid hl
  have HS := hid hs
  have hvl := hl.1
  have HVL := hid hl.1
  clear h hl hs
  rw [← hvl] at hn
  go_enter Try.func63, Try.ntmps63
  go_wp2_with (first | (at_make; refine wpList_make0 _ eltInt rfl _ (.tmp 10) rfl ls.length rfl rfl (by omega) ?_; intro w2 own2 hb2) | fail)
  have hb2' := hb2
  have sz2 : w.heap.size < w2.heap.size := (own2.lt w.heap.size rfl).2
  have R0 : Aside (w2.ownsRow w.heap.size 3 1 (.slice (some ⟨w.heap.size, 0, none⟩) 0 ls.length) 0 (((ls.map tall).take 0).flatMap encI) ∧ Below w.heap.size w w2) := ⟨by simpa using own2, hb2⟩
  clear own2 hb2 hb2'
  rw [← hvl]
  rw [← hvl] at R0
  clear hvl
  go_wp2
  go_loopg [3, 14] vs.length (fun gg s3 s14 wr => ∃ (i : Nat) (A7 : Option Addr) (c7 : Nat), i ≤ vs.length ∧ vs.length - i ≤ gg ∧ s3 = .slice A7 i c7 ∧ s14 = .int .i64 i ∧ Aside (wr.ownsRow w.heap.size 3 1 (.slice A7 i c7) i (((ls.map tall).take i).flatMap encI) ∧ Below w.heap.size w wr))
  case atStart => exact ⟨0, _, _, Nat.zero_le _, by omega, rfl, rfl, R0⟩
  case round =>
    obtain ⟨i, A7, c7, hi, hgg, rfl, rfl, R⟩ := hrel
    clear R0
    by_cases hlt : i < vs.length
    · obtain ⟨Al, cl, l, hv, hl, hal⟩ := HL.out.at_ hlt
      obtain ⟨b, off, rfl, hb, c1⟩ := H.out.atV hv
      have hll : l.length ≤ 1000000 := HS.out l (List.mem_of_getElem? hl)
      have c1' := (R.out.2.cell (p := ⟨b, off + i, none⟩) hb).trans c1
      have HAL := hid hal
      have HLl := hid hl
      clear hv hl hal c1
      have hsz := R.out.2.size
      go_wp2
      go_loopg [6, 20] l.length (fun gg s6 s20 wr2 => ∃ (k : Nat) (m : Int), k ≤ l.length ∧ l.length - k ≤ gg ∧ s6 = .int .i64 m ∧ s20 = .int .i64 k ∧ Aside (m = tall (l.take k) ∧ Below wr.heap.size wr wr2))
      case atStart => exact ⟨0, 0, Nat.zero_le _, by omega, rfl, rfl, rfl, Below.refl _ _⟩
      case round =>
        obtain ⟨k, m, hk, hgk, rfl, rfl, R2⟩ := hrel
        by_cases hkl : k < l.length
        · obtain ⟨b2, off2, x, y, rfl, hb2, hx, q1, q2⟩ := (HAL.out.below (R.out.2.trans (R2.out.2.mono hsz))).at2 hkl
          have HX := hid hx
          clear hx
          go_wp2
          all_goals
            go_roundg (l.length - (k + 1))
            case measure => omega
            case rel =>
              refine ⟨k + 1, _, by omega, by omega, rfl, by go_num, ?_, below_al R2.out.2 rfl _⟩
              have e := tall_take HX.out
              rw [← R2.out.1] at e
              simp only at e
              omega
        · have hkl' : k = l.length := by omega
          subst hkl'
          have hfull := R2.out.1
          rw [List.take_length] at hfull
          have HM := hid hfull
          have O2 := hid (row_next R.out.1 R2.out.2)
          have B2 := hid (R.out.2.trans (R2.out.2.mono hsz))
          have sz2' := R2.out.2.size
          clear hfull
          go_wp2_with (at_builtin; refine wpList_push eltInt rfl _ _ rfl w.heap.size _ i _ O2.out (by omega) (by omega) _ _ rfl rfl rfl rfl (oc1 _) ?_; intro A8 c8 w8 own8 gr8 at8)
          go_roundg (vs.length - (i + 1))
          case measure => omega
          case rel =>
            refine ⟨i + 1, A8, c8, by omega, by omega, rfl, by go_num, ?_, B2.out.grown gr8 (by omega) (fun g hg => (O2.out.lt g hg).1)⟩
            have hc : (ls.map tall)[i]? = some m := by rw [List.getElem?_map, HLl.out, HM.out]; rfl
            rw [take_next hc, List.flatMap_append]
            exact own8
    · have hiv : i = vs.length := by omega
      subst hiv
      have HR := hid R.out
      clear R
      go_wp2
      go_ret
      have hlen : (ls.map tall).length = vs.length := by rw [List.length_map, HVL.out]
      have hfull : (ls.map tall).take vs.length = ls.map tall := by rw [← hlen, List.take_length]
      refine ⟨A7, c7, by rw [hlen]; rfl, by rw [hlen]; exact (slice_le HR.out.1).1, (slice_le HR.out.1).2, ?_, HR.out.2⟩
      have hr := HR.out.1
      rw [hfull] at hr
      exact OwnA.of_rowN (enc := encI) (k := 1) (fun _ => rfl) hlen.symm rfl hr
end Go.Proofs.Ytjkcejijdpmhoaa
