/- The generator of parts: how wide they are. -/
import Derived.Test.YtjkcejijdpmhoaaH4
namespace Go.Proofs.Ytjkcejijdpmhoaa
open Go.RowKit Go.Lib

/-- A drawn part is narrow, or is too wide. -/
def smallW (q : Int × Int) : Prop := q.1 ≤ 120 ∨ q.1 = 10001
def DrawnW (w : World) (r : Nat) (A : Option Addr) (cap : Nat) (bs : List Int) (p : Nat) (e : Ending) (w' : World) : Prop :=
  ∃ A' c L p', e = .returned (.slice A' (List.length L) c) ∧ (∀ q ∈ L, smallW q) ∧ L.length ≤ 13 ∧ L.length ≤ c ∧ c ≤ maxLen ∧ OwnA w' w.heap.size 2 encP A' L ∧ Rd w' r A cap bs p' ∧ p' ≤ p + 1000 ∧ w.grownBy w' (some r)
def PartsRelW (w : World) (r : Nat) (A : Option Addr) (cap : Nat) (bs : List Int) (p : Nat) (A' : Option Addr) (c : Nat) (L : List (Int × Int)) (n : Nat) (wr : World) : Prop :=
  (∀ q ∈ L, smallW q) ∧ PartsRel w r A cap bs p A' c L n wr

set_option maxHeartbeats 2000000 in
theorem anyPartsW_any (r : Nat) (A : Option Addr) (cap : Nat) (bs : List Int) (p : Nat) (w : World) (h : Rd w r A cap bs p) (hp : p ≤ 1000) :
    Calls Try.prog 47 #[.pointer (some ⟨r, 0, none⟩)] w (DrawnW w r A cap bs p) := by
  have hrlt := h.lt
  have H := hid h
  clear h
  go_enter Try.func47, Try.ntmps47
  go_wp2_with fail
  (with_reducible refine (oneLit r A cap bs p _ 7 [4, 6, 3, 1, 0, 12, 13] _ _ (H.out.alloc _) (by omega) ?_ ?_ rfl (by omega) (by omega)).mono ?_)
  · simp
  · rfl
  rintro e w1 ⟨x, rfl, hx, hr1⟩
  have hx' : ∃ n : Nat, x = n ∧ n ≤ 13 := by
    simp only [List.mem_cons, List.not_mem_nil, or_false] at hx
    exact ⟨x.toNat, by omega, by omega⟩
  obtain ⟨n0, rfl, hn0⟩ := hx'
  have R0 : Aside (PartsRelW w r A cap bs p (some ⟨w.heap.size, 0, none⟩) 0 [] n0 w1) :=
    ⟨by simp, p + 1, by simpa using hn0, row_far (World.ownsRow_made w #[] 0 (Nat.le_refl _) (by simp [maxLen]) rfl) hr1.gr hrlt, hr1.rd, by simp, grown_trans (World.grownBy_alloc w _ _) hr1.gr⟩
  clear hx hr1
  go_wp2
  go_loopg [3, 4] 13 (fun gg s3 s4 wr => ∃ (n c : Nat) (A' : Option Addr) (L : List (Int × Int)), n ≤ gg ∧ s3 = .slice A' L.length c ∧ s4 = .int .i64 n ∧ Aside (PartsRelW w r A cap bs p A' c L n wr))
  case atStart => exact ⟨n0, 0, _, [], hn0, rfl, rfl, R0⟩
  case round =>
    obtain ⟨n, c, A', L, hng, rfl, rfl, R⟩ := hrel
    obtain ⟨hsm, p', hln, hown, hrd, hp', hgr⟩ := R.out
    have HSM := hid hsm
    clear hsm
    clear R R0
    have RD := hid hrd
    have GR := hid hgr
    have HOWN := hid hown
    clear hrd hgr hown
    by_cases hpos : 0 < n
    · go_wp2_with fail
      (with_reducible refine (oneLit r A cap bs p' _ 5 [30, 50, 10, 0, 120] _ _ RD.out (by omega) ?_ ?_ rfl (by omega) (by omega)).mono ?_)
      · rfl
      · rfl
      rintro e w2 ⟨x, rfl, hx, hr2⟩
      have HX := hid (show x ≤ 120 by simp at hx; omega)
      clear hx
      have HR2 := hid hr2
      clear hr2
      go_wp2_with fail
      (with_reducible refine (oneLit r A cap bs (p' + 1) _ 4 [10, 20, 5, 0] _ _ HR2.out.rd (by omega) ?_ ?_ rfl (by omega) (by omega)).mono ?_)
      · rfl
      · rfl
      rintro e w3 ⟨y, rfl, hy, hr3⟩
      clear hy
      have own3 := hid (row_far (row_far HOWN.out HR2.out.gr hrlt) hr3.gr hrlt)
      have HR3 := hid hr3
      have hb3 : w.heap.size ≤ w3.heap.size := Nat.le_trans GR.out.size (Nat.le_trans HR2.out.gr.size hr3.gr.size)
      clear hr3
      go_wp2_with (at_builtin; refine wpList_push eltPart rfl _ _ rfl w.heap.size _ _ _ own3.out (by omega) hb3 _ _ rfl rfl rfl rfl (oc2 x y) ?_)
      intro A2 c2 w4 hown4 hgr4 _
      have R : Aside (PartsRelW w r A cap bs p A2 c2 (L ++ [(x, y)]) (n - 1) w4) := by
        refine ⟨?_, p' + 1 + 1, by simp; omega, ?_, HR3.out.rd.kept hgr4 ?_, by simp; omega, ?_⟩
        · intro q hq
          rcases List.mem_append.1 hq with hq | hq
          · exact HSM.out q hq
          · rw [List.mem_singleton.1 hq]; exact .inl HX.out
        · rw [List.length_append, List.flatMap_append]; exact hown4
        · intro k hk; have := (own3.out.lt k hk).1; omega
        · exact grown_new (grown_trans (grown_trans GR.out HR2.out.gr) HR3.out.gr) hgr4 (fun g hg => (own3.out.lt g hg).1)
      clear hown4 hgr4
      go_wp2
      go_roundg (n - 1)
      case measure => omega
      case rel => exact ⟨n - 1, c2, A2, L ++ [(x, y)], by omega, by simp, by go_num, R⟩
    · have hn : n = 0 := by omega
      subst hn
      by_cases hl : 0 < L.length
      · go_wp2_with fail
        (with_reducible refine (pick_any r A cap bs p' _ _ RD.out (by omega) (by omega)).mono ?_)
        rintro e w2 ⟨x, rfl, hx, hr2⟩
        clear hx
        have HR2 := hid hr2
        clear hr2
        by_cases hx0 : x = 0
        · subst hx0
          go_wp2_with fail
          (with_reducible refine (pick_any r A cap bs (p' + 1) _ _ HR2.out.rd (by omega) (by omega)).mono ?_)
          rintro e w3 ⟨x, rfl, hx, hr3⟩
          obtain ⟨k, rfl⟩ := Int.eq_ofNat_of_zero_le hx.1
          have hk : k < L.length := by have := hx.2.1 (by omega); omega
          clear hx
          have HR3 := hid hr3
          clear hr3
          go_wp2_with fail
          (with_reducible refine (oneLit r A cap bs (p' + 1 + 1) _ 2 [-1, 10001] _ _ HR3.out.rd (by omega) ?_ ?_ rfl (by omega) (by omega)).mono ?_)
          · rfl
          · rfl
          rintro e w4 ⟨y, rfl, hy, hr4⟩
          have HY := hid (show y ≤ 120 ∨ y = 10001 by simp at hy; omega)
          clear hy
          have own4 := row_far (row_far (row_far HOWN.out HR2.out.gr hrlt) HR3.out.gr hrlt) hr4.gr hrlt
          have HR4 := hid hr4
          clear hr4
          obtain ⟨g, c', e1, hgb, _⟩ := own4.form hl
          injection e1 with e1 _ e2
          subst e1
          subst e2
          have hx := List.getElem?_eq_getElem hk
          have fc := flat_get (enc := encP) (k := 2) (fun _ => rfl) hx (j := 0) rfl
          have c1 : w4.cell? ⟨g, k * 2, none⟩ = some (.int .i64 L[k].1) := by rw [own4.cellAt _ (by omega)]; simpa using fc
          have f1 : w4.frozen? ⟨g, k * 2, none⟩ = false := own4.frozenAt _
          have own5 := own4.stored (k * 2) (.int .i64 y)
          rw [flat_setW (show L[k]? = some (L[k].1, L[k].2) from hx)] at own5
          have O5 := hid own5
          have O4 := hid own4
          clear own5 own4 fc hx
          go_wp2
          go_ret
          have hlen : (L.set k (y, L[k].2)).length = L.length := by simp
          refine ⟨_, _, L.set k (y, L[k].2), p' + 1 + 1 + 1, by rw [hlen]; rfl, ?_, by omega, ?_, (slice_le O4.out).2, OwnA.of_row (c := c) (e := 38) (fun _ => rfl) ?_, HR4.out.rd.kept O5.out.2 ?_, by omega, ?_⟩
          · intro q hq
            rcases List.mem_or_eq_of_mem_set hq with hq | hq
            · exact HSM.out q hq
            · rw [hq]; exact HY.out
          · rw [hlen]; exact (slice_le O4.out).1
          · rw [hlen]; exact O5.out.1
          · intro q hq; injection hq with hq; omega
          · exact grown_new (grown_trans (grown_trans (grown_trans GR.out HR2.out.gr) HR3.out.gr) HR4.out.gr) O5.out.2 (fun q hq => by injection hq with hq; omega)
        · have hx0' : (x == 0) = false := by rw [beq_eq_false_iff_ne]; exact hx0
          have HX := hid hx0
          clear hx0
          go_wp2
          go_ret
          exact ⟨A', c, L, p' + 1, rfl, HSM.out, by omega, (slice_le (row_far HOWN.out HR2.out.gr hrlt)).1, (slice_le (row_far HOWN.out HR2.out.gr hrlt)).2, OwnA.of_row (fun _ => rfl) (row_far HOWN.out HR2.out.gr hrlt), HR2.out.rd, by omega, grown_trans GR.out HR2.out.gr⟩
      · go_wp2
        go_ret
        exact ⟨A', c, L, p', rfl, HSM.out, by omega, (slice_le HOWN.out).1, (slice_le HOWN.out).2, OwnA.of_row (fun _ => rfl) HOWN.out, RD.out, by omega, GR.out⟩

def DrawnLW (w : World) (e : Ending) (w' : World) : Prop :=
  ∃ (A' : Option Addr) (c : Nat) (L : List (Int × Int)) (x y : Int), e = .returned (.tuple #[.slice A' L.length c, .int .i64 x, .int .i64 y]) ∧ (∀ q ∈ L, smallW q) ∧ L.length ≤ 13 ∧ L.length ≤ c ∧ c ≤ maxLen ∧ OwnA w' w.heap.size 2 encP A' L ∧ Below w.heap.size w w'

set_option maxHeartbeats 1000000 in
theorem drawLineCountsW_any (A : Option Addr) (cap : Nat) (bs : List Int) (w : World) (h : Code w A cap bs) :
    Calls Try.prog 24 #[.slice A bs.length cap] w (DrawnLW w) := by
  have hc := newReader_any A cap bs w h
  clear h
  go_enter Try.func24, Try.ntmps24
  go_wp2_with fail
  refine hc.mono ?_
  rintro e w1 ⟨rfl, ⟨cap', hrd⟩, hb, hlt⟩
  have HB := hid hb
  have hc2 := anyPartsW_any _ A cap' _ 0 w1 hrd (by omega)
  clear hrd hb hc
  go_wp2_with fail
  refine hc2.mono ?_
  rintro e w2 ⟨A', c, L, p', rfl, h0, h1, h2, h3, h4, h5, h6, h7⟩
  have H7 := hid h7
  have H4 := hid h4
  have hc3 := someSide_any _ A cap' _ p' w2 h5 (by omega)
  clear h7 h4 h5 hc2
  go_wp2_with fail
  refine hc3.mono ?_
  rintro e w3 ⟨x, rfl, hr3⟩
  have HR3 := hid hr3
  have hc4 := someGap_any _ A cap' _ (p' + 1) w3 hr3.rd (by omega)
  clear hr3 hc3
  go_wp2_with fail
  refine hc4.mono ?_
  rintro e w4 ⟨y, rfl, hr4⟩
  have HR4 := hid hr4
  clear hr4 hc4
  go_wp2
  go_ret3
  have g1 := grown_trans (grown_trans H7.out HR3.out.gr) HR4.out.gr
  have ho : OwnA w4 w.heap.size 2 encP A' L := by
    have o1 := H4.out.apart HR3.out.gr (fun g hg => by injection hg with hg; exact .inl (by omega))
    have o2 := o1.apart HR4.out.gr (fun g hg => by injection hg with hg; exact .inl (by omega))
    exact o2.less HB.out.size
  exact ⟨A', c, L, x, y, rfl, h0, h1, h2, h3, ho, below_of_grown HB.out g1 HB.out.size (Nat.le_refl _)⟩

theorem drawWrapHeightW_any (A : Option Addr) (cap : Nat) (bs : List Int) (w : World) (h : Code w A cap bs) :
    Calls Try.prog 35 #[.slice A bs.length cap] w (DrawnLW w) := by
  have hc := drawLineCountsW_any A cap bs w h
  clear h
  go_enter Try.func35, Try.ntmps35
  go_wp2_with fail
  refine hc.mono ?_
  rintro e w1 ⟨A', c, L, x, y, rfl, h0, h1, h2, h3, ho, hb⟩
  have HO := hid ho
  have HB := hid hb
  clear ho hb hc
  go_wp2
  go_ret3
  exact ⟨A', c, L, x, y, rfl, h0, h1, h2, h3, HO.out, HB.out⟩
end Go.Proofs.Ytjkcejijdpmhoaa
