/- impl.LineCounts. -/
import Derived.Test.YtjkcejijdpmhoaaC
namespace Go.Proofs.Ytjkcejijdpmhoaa
open Go.RowKit Go.Lib

theorem okL_bd {L : List (Int × Int)} {width gap : Int} (h : okL L width gap = true) : validL L = true ∧ (0 ≤ width ∧ width ≤ 10000) ∧ (0 ≤ gap ∧ gap ≤ 50) := by
  unfold okL at h
  rw [Bool.and_eq_true, Bool.and_eq_true, inR_iff, inR_iff] at h
  exact ⟨h.1.1, h.1.2, h.2⟩

/-- The counts that both give. -/
def countsOf (L : List (Int × Int)) (width gap : Int) : List Int := if okL L width gap then cnt width gap L else []

theorem LinesAt.at_ {w : World} {B : Nat} {vs : List Value} {ls : List (List (Int × Int))} (h : LinesAt w B vs ls) {i : Nat} (hi : i < vs.length) :
    ∃ (A : Option Addr) (c : Nat) (l : List (Int × Int)), vs[i]? = some (Value.slice A l.length c) ∧ ls[i]? = some l ∧ Arr w B 2 encP A l := by
  obtain ⟨A, c, l, h1, h2, h3⟩ := h.2 i _ (List.getElem?_eq_getElem hi)
  exact ⟨A, c, l, by rw [List.getElem?_eq_getElem hi, h2], h1, h3⟩
theorem Arr.atV {w : World} {B : Nat} {A : Option Addr} {vs : List Value} (h : Arr w B 1 encV A vs) {i : Nat} {v : Value} (hv : vs[i]? = some v) : ∃ b off, A = some ⟨b, off, none⟩ ∧ b < B ∧ w.cell? ⟨b, off + i, none⟩ = some v := by
  obtain ⟨b, off, e, hb, hc⟩ := h.at_ hv
  exact ⟨b, off, e, hb, by simpa using hc 0 _ rfl⟩

theorem take_next {α : Type} {L : List α} {i : Nat} {x : α} (h : L[i]? = some x) : L.take (i + 1) = L.take i ++ [x] := by
  obtain ⟨hi, rfl⟩ := List.getElem?_eq_some_iff.1 h
  exact List.take_succ_eq_append_getElem hi

set_option maxHeartbeats 1000000 in
theorem lineCounts_any (A : Option Addr) (L : List (Int × Int)) (c : Nat) (width gap : Int) (w : World) (hL : L.length ≤ 1048576) (hc1 : L.length ≤ c) (hc2 : c ≤ maxLen) (h : Arr w w.heap.size 2 encP A L) :
    Calls Try.prog 25 #[.slice A L.length c, .int .i64 width, .int .i64 gap] w (Gives 1 encI (countsOf L width gap) w) := by
  have hk := linesOk_any A L c width gap w (by omega) h
  have H := hid h
  clear h
  cases hq : okL L width gap with
  | false =>
    have e : countsOf L width gap = [] := by simp [countsOf, hq]
    rw [e]
    rw [hq] at hk
    clear hq e
    go_enter Try.func25, Try.ntmps25
    go_wp2_with fail
    refine hk.mono ?_
    rintro e w' ⟨rfl, hb⟩
    have HB := hid hb
    clear hb hk
    go_wp2
    go_ret
    exact ⟨none, 0, rfl, by simp, by simp [maxLen], fun h => absurd h (by simp), HB.out⟩
  | true =>
    have e : countsOf L width gap = cnt width gap L := by simp [countsOf, hq]
    rw [e]
    obtain ⟨hv, hw, hg⟩ := okL_bd hq
    rw [hq] at hk
    clear hq e
    have HV := hid hv
    have HW := hid hw
    have HG := hid hg
    clear hv hw hg
    go_enter Try.func25, Try.ntmps25
    go_wp2_with fail
    refine hk.mono ?_
    rintro e w1 ⟨rfl, hb1⟩
    have H1 := hid (H.out.next hb1)
    have HB1 := hid hb1
    clear hb1 hk
    go_wp2_with (first | (at_make; refine wpList_make0 _ eltInt rfl _ (.tmp 16) rfl L.length rfl rfl (by omega) ?_; intro w2 own2 hb2) | fail)
    refine (wrapped_any A L c width gap w2 HV.out HW.out HG.out hc1 hc2 (H1.out.next hb2)).mono ?_
    rintro e w3 ⟨A3, c3, vs, rfl, hvl, o3, l3, hb3⟩
    have hb2' := hb2
    have own3 := row_next own2 hb3
    have HO3 := hid o3
    have HL3 := hid l3
    have HB13 := hid (chain hb2 hb3)
    have hls := lines_len width gap L.length L (Nat.le_refl _)
    have hvl2 : (cnt width gap L).length = vs.length := by simp [cnt, hvl]
    have HVL := hid hvl
    have HVL2 := hid hvl2
    have hl12 : L.length ≤ 12 := (validL_iff.1 HV.out).1
    have A3lt := hid o3.lt
    have sz3 := hb3.size
    have sz2 := hb2.size
    have sz2' : w1.heap.size < w2.heap.size := (own2.lt w1.heap.size rfl).2
    have R0 : Aside (w3.ownsRow w1.heap.size 3 1 (.slice (some ⟨w1.heap.size, 0, none⟩) 0 L.length) 0 (((cnt width gap L).take 0).flatMap encI) ∧ Below w1.heap.size w1 w3) := ⟨by simpa using own3, HB13.out⟩
    clear own2 own3 hb2 hb2' hb3 o3 l3 hvl hvl2
    rw [← HVL.out]
    rw [← HVL.out] at hls
    go_wp2
    go_loopg [7, 23] vs.length (fun gg s7 s23 wr => ∃ (i : Nat) (A7 : Option Addr) (c7 : Nat), i ≤ vs.length ∧ vs.length - i ≤ gg ∧ s7 = .slice A7 i c7 ∧ s23 = .int .i64 i ∧ Aside (wr.ownsRow w1.heap.size 3 1 (.slice A7 i c7) i (((cnt width gap L).take i).flatMap encI) ∧ Below w1.heap.size w1 wr ∧ OwnA wr w2.heap.size 1 encV A3 vs ∧ w3.heap.size ≤ wr.heap.size ∧ (∀ q, (Value.slice A7 i c7).ownBlock = some q → q < w2.heap.size ∨ w3.heap.size ≤ q)))
    case atStart => exact ⟨0, _, _, Nat.zero_le _, by omega, rfl, rfl, R0.out.1, R0.out.2, HO3.out, Nat.le_refl _, fun q hq => by simp [Value.ownBlock] at hq; exact .inl (by omega)⟩
    case round =>
      obtain ⟨i, A7, c7, hi, hgg, rfl, rfl, R⟩ := hrel
      clear R0
      by_cases hlt : i < vs.length
      · obtain ⟨Al, cl, l, hv, hl, -⟩ := HL3.out.at_ hlt
        obtain ⟨b, off, rfl, hb, c1⟩ := R.out.2.2.1.arr.atV hv
        have hn : i ≤ 1000000 := by omega
        have hsz := R.out.2.1.size
        have HR := hid R.out
        have HLl := hid hl
        clear hv R hl
        go_wp2_with (at_builtin; refine wpList_push eltInt rfl _ _ rfl w1.heap.size _ i _ HR.out.1 hn hsz _ _ rfl rfl rfl rfl (oc1 _) ?_; intro A8 c8 w8 own8 gr8 at8)
        go_roundg (vs.length - (i + 1))
        case measure => omega
        case rel =>
          refine ⟨i + 1, A8, c8, by omega, by omega, rfl, by go_num, ?_, HR.out.2.1.grown gr8 hsz (fun g hg => (HR.out.1.lt g hg).1), HR.out.2.2.1.far A3lt.out gr8 HR.out.2.2.2.2, Nat.le_trans HR.out.2.2.2.1 gr8.size, ?_⟩
          · have hc : (cnt width gap L)[i]? = some (l.length : Int) := by unfold cnt; rw [List.getElem?_map, HLl.out]; rfl
            rw [take_next hc, List.flatMap_append]
            exact own8
          · intro q hq
            rcases at8 q hq with h | h
            · exact HR.out.2.2.2.2 q h
            · exact .inr (Nat.le_trans HR.out.2.2.2.1 h)
      · have hiv : i = vs.length := by omega
        have hic : i ≤ c7 := (slice_le R.out.1).1
        have HR := hid R.out
        subst hiv
        clear R
        go_wp2_with fail
        refine (clip_any A7 vs.length c7 _ hic).mono ?_
        rintro e w9 ⟨rfl, rfl⟩
        go_wp2
        go_ret
        have hfull : (cnt width gap L).take vs.length = cnt width gap L := by rw [← HVL2.out, List.take_length]
        refine ⟨A7, vs.length, by rw [HVL2.out]; rfl, by rw [HVL2.out]; exact Nat.le_refl _, by simp only [maxLen]; omega, ?_, chain HB1.out HR.out.2.1⟩
        have hr := HR.out.1
        rw [hfull] at hr
        exact (OwnA.of_rowN (enc := encI) (k := 1) (fun _ => rfl) HVL2.out.symm rfl hr).less HB1.out.size
end Go.Proofs.Ytjkcejijdpmhoaa
