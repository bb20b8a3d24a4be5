/- The generators of painted rectangles. -/
import Derived.Test.YthejkmdodjchiaaDR2
import Derived.Test.YthejkmdodjchiaaJ3
namespace Go.Proofs.Ythejkmdodjchiaa
set_option linter.unusedVariables false
set_option linter.unusedSimpArgs false
open Go.RowKit Go.Lib

/-- The loop's relation: a row. -/
def OneRelP (w : World) (r : Nat) (A : Option Addr) (cap : Nat) (bs : List Int) (p k : Nat) (A4 : Option Addr) (n4 c4 : Nat) (a : List RectD) (wr : World) : Prop :=
  ∃ p', n4 = a.length ∧ wr.ownsRow w.heap.size 27 4 (.slice A4 n4 c4) n4 (a.flatMap encRect) ∧ Rd wr r A cap bs p' ∧ p' ≤ p + 20 * k ∧ w.grownBy wr (some r)

/-- What a law's generator of a list of rectangles leaves. -/
def DrawnR1 (w : World) (e : Ending) (w' : World) : Prop :=
  ∃ (A4 : Option Addr) (c4 : Nat) (a : List RectD), e = .returned (.slice A4 a.length c4) ∧ a.length ≤ 7 ∧ a.length ≤ c4 ∧ c4 ≤ maxLen ∧ OwnA w' w.heap.size 4 encRect A4 a ∧ Below w.heap.size w w'

set_option maxHeartbeats 4000000 in
theorem drawPaintArea_any (A : Option Addr) (cap : Nat) (bs : List Int) (w : World) (h : Code w A cap bs) :
    Calls Try.prog 15 #[.slice A bs.length cap] w (DrawnR1 w) := by
  have hc := newReader_any A cap bs w h
  clear h
  go_enter Try.func15, Try.ntmps15
  go_wp2_with fail
  refine hc.mono ?_
  rintro e w1 ⟨rfl, ⟨cap', hrd⟩, hb, hlt⟩
  have HB := hid hb
  have RD := hid hrd
  clear hrd hb hc
  go_wp2_with fail
  (with_reducible refine (oneLit _ A cap' _ 0 _ 7 [2, 3, 4, 1, 0, 6, 7] _ _ (RD.out.alloc _) (by omega) ?_ ?_ rfl (by omega) (by omega)).mono ?_)
  · simp
  · rfl
  rintro e w2 ⟨x, rfl, hx, hr1⟩
  have hx' : ∃ n : Nat, x = n ∧ n ≤ 7 := by
    simp only [List.mem_cons, List.not_mem_nil, or_false] at hx
    exact ⟨x.toNat, by omega, by omega⟩
  obtain ⟨n0, rfl, hn0⟩ := hx'
  have R0 : Aside (OneRelP w1 w.heap.size A cap' (bs.take 2000) 1 0 (some ⟨w1.heap.size, 0, none⟩) 0 0 [] w2) :=
    ⟨0 + 1, rfl, row_far (World.ownsRow_made w1 #[] 0 (Nat.le_refl _) (by simp [maxLen]) rfl) hr1.gr hlt, hr1.rd, by omega, grown_trans (World.grownBy_alloc w1 _ _) hr1.gr⟩
  clear hx hr1
  go_wp2
  go_loopg [4, 5] 7 (fun gg s4 s5 wr => ∃ (k n n4 c4 : Nat) (A4 : Option Addr) (a : List RectD), n ≤ gg ∧ k + n ≤ 7 ∧ a.length = k ∧ s4 = .slice A4 n4 c4 ∧ s5 = .int .i64 n ∧ Aside (OneRelP w1 w.heap.size A cap' (bs.take 2000) 1 k A4 n4 c4 a wr))
  case atStart => exact ⟨0, n0, _, _, _, [], hn0, by omega, rfl, rfl, rfl, R0⟩
  case round =>
    obtain ⟨k, n, n4, c4, A4, a, hng, hkn, hka, rfl, rfl, R⟩ := hrel
    clear R0
    obtain ⟨p', hn4, own4, hrd, hp', hgr⟩ := R.out
    have HN4 := hid hn4
    have hn4' : n4 ≤ 7 := by omega
    have HKA := hid hka
    have RD := hid hrd
    have GR := hid hgr
    have O4 := hid own4
    clear R hrd hgr own4 hn4 hka
    by_cases hpos : 0 < n
    · go_wp2_with fail
      (with_reducible refine (someRect_any _ A cap' _ p' _ RD.out (by omega)).mono ?_)
      rintro e w3 ⟨x, rfl, p3, R3', hp3, G3'⟩
      have O43 := hid (row_far O4.out G3' hlt)
      have G3 := hid (grown_trans GR.out G3')
      have R3 := hid R3'
      have hs3 : w1.heap.size ≤ w3.heap.size := G3.out.size
      clear R3' G3'
      go_wp2_with (at_builtin; refine wpList_push eltRectG rfl (.tmp 16) (.tmp 19) rfl w1.heap.size _ n4 _ O43.out (by omega) hs3 w3.heap.size _ rfl rfl rfl rfl (fun q hq => ocRect x q hq) ?_; intro A9 c9 w9 own9 gr9 at9)
      have F : Aside (OneRelP w1 w.heap.size A cap' (bs.take 2000) 1 (k + 1) A9 (n4 + 1) c9 (a ++ [x]) w9) :=
        ⟨p3, by rw [HN4.out]; simp, by rw [List.flatMap_append, show [x].flatMap encRect = encRect x from by simp]; exact own9, R3.out.kept gr9 (fun q hq => by have := (O43.out.lt q hq).1; omega), by omega, grown_new G3.out gr9 (fun q hq => (O43.out.lt q hq).1)⟩
      clear own9 gr9 at9
      go_wp2
      go_roundg (n - 1)
      case measure => omega
      case rel => exact ⟨k + 1, n - 1, n4 + 1, c9, A9, a ++ [x], by omega, by omega, by simp [HKA.out], rfl, by go_num, F⟩
    · have hn0 : n = 0 := by omega
      subst hn0
      have FIN : ∀ (W : World) (b' : List RectD), b'.length = a.length → W.ownsRow w1.heap.size 27 4 (.slice A4 n4 c4) n4 (b'.flatMap encRect) → w1.grownBy W (some w.heap.size) → DrawnR1 w (.returned (.slice A4 n4 c4)) W := by
        intro W b' hb' o4 g
        have hn : n4 = b'.length := by rw [HN4.out, hb']
        obtain ⟨l1, l2⟩ := slice_le o4
        refine ⟨A4, c4, b', by rw [← hn], by have := HKA.out; omega, by omega, l2, ?_, below_of_grown HB.out g HB.out.size (Nat.le_refl _)⟩
        exact (OwnA.of_rowN (enc := encRect) (k := 4) (fun _ => rfl) hn rfl o4).less HB.out.size
      have HFIN := hid FIN
      clear FIN
      by_cases hl : 0 < n4
      · go_wp2_with fail
        (with_reducible refine (pick_any _ A cap' _ p' _ _ RD.out (by omega) (by omega)).mono ?_)
        rintro e w3 ⟨m, rfl, hm, hr3⟩
        have hm0 : 0 ≤ m := hm.1
        have O43 := hid (row_far O4.out hr3.gr hlt)
        have G3 := hid (grown_trans GR.out hr3.gr)
        have R3 := hid hr3.rd
        clear hm hr3
        by_cases hm1 : m = 0
        · subst hm1
          go_wp2_with fail
          (with_reducible refine (pick_any _ A cap' _ (p' + 1) _ _ R3.out (by omega) (by omega)).mono ?_)
          rintro e w4 ⟨q, rfl, hq, hr4⟩
          obtain ⟨k4, rfl⟩ := Int.eq_ofNat_of_zero_le hq.1
          have hk4 : k4 < n4 := by have := hq.2.1 (by omega); omega
          have O44 := hid (row_far O43.out hr4.gr hlt)
          have G4 := hid (grown_trans G3.out hr4.gr)
          have R4 := hid hr4.rd
          clear hq hr4
          go_wp2_with fail
          (with_reducible refine (oneLit _ A cap' _ (p' + 1 + 1) _ 3 [41, 40, -1] _ _ R4.out (by omega) ?_ ?_ rfl (by omega) (by omega)).mono ?_)
          · rfl
          · rfl
          rintro e w5 ⟨y, rfl, hy, hr5⟩
          have O45 := hid (row_far O44.out hr5.gr hlt)
          have G5 := hid (grown_trans G4.out hr5.gr)
          clear hy hr5
          obtain ⟨g, cc4, f1, hgb, _⟩ := O45.out.form hl
          injection f1 with f1 _ f2
          subst f1
          subst f2
          obtain ⟨z, hz⟩ : ∃ z, a[k4]? = some z := ⟨_, List.getElem?_eq_getElem (by have := HN4.out; omega)⟩
          obtain ⟨⟨y0, y1, y2, y3⟩, z0, z1, z2, z3⟩ := row_cells O45.out HN4.out hz
          obtain ⟨r1, r2⟩ := row_setRect O45.out hz ⟨0, 0, y, 3⟩
          have hgx : w1.heap.size ≤ g := (O45.out.lt g rfl).1
          have F := hid (HFIN.out _ (a.set k4 ⟨0, 0, y, 3⟩) (by rw [List.length_set]) r1 (grown_new G5.out r2 (fun q hq => by injection hq with hq; rw [← hq]; exact hgx)))
          have j1 : (0 : Int) ≤ (k4 : Int) := by omega
          have j2 : (k4 : Int) < (n4 : Int) := by omega
          clear hz r1 r2 hgb
          go_wp2
          go_ret
          exact F.out
        · have hm1' : (m == 0) = false := by rw [beq_eq_false_iff_ne]; exact hm1
          have F := hid (HFIN.out w3 a rfl O43.out G3.out)
          clear hm1
          go_wp2
          go_ret
          exact F.out
      · have F := hid (HFIN.out wr a rfl O4.out GR.out)
        go_wp2
        go_ret
        exact F.out

set_option maxHeartbeats 400000 in
theorem drawJoinPaint_any (A : Option Addr) (cap : Nat) (bs : List Int) (w : World) (h : Code w A cap bs) :
    Calls Try.prog 37 #[.slice A bs.length cap] w (DrawnR1 w) := by
  have HC := hid (drawPaintArea_any A cap bs w h)
  clear h
  go_enter Try.func37, Try.ntmps37
  go_wp2_with fail
  refine HC.out.mono ?_
  rintro e w1 ⟨A4, c4, a, rfl, h1, h2, h3, h4, h5⟩
  have H4 := hid h4
  have H5 := hid h5
  clear h4 h5
  go_wp2
  go_ret
  exact ⟨A4, c4, a, rfl, h1, h2, h3, H4.out, H5.out⟩
end Go.Proofs.Ythejkmdodjchiaa
