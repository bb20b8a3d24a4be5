/- The generators of tracks, of a space, of a gap; the law's own. -/
import Derived.Test.YtjebjcabggmaiaaDG
import Derived.Test.YtjebjcabggmaiaaS8
namespace Go.Proofs.Ytjebjcabggmaiaa
set_option linter.unusedVariables false
set_option linter.unusedSimpArgs false
open Go.RowKit Go.Lib

theorem eltTrackG : Elt Try.prog 26 43 2 16 := Elt.mk' Try.underlying26 (z := .agg #[.int .i64 0, .int .i64 0]) (by kernel_rfl) rfl (by omega) (by omega)

/-- The loop's relation. -/
def TracksRel (w : World) (r : Nat) (A : Option Addr) (cap : Nat) (bs : List Int) (p : Nat) (A' : Option Addr) (c : Nat) (L : List TrackD) (n : Nat) (wr : World) : Prop :=
  ∃ p', L.length + n ≤ 9 ∧ wr.ownsRow w.heap.size 43 2 (.slice A' L.length c) L.length (L.flatMap encTrack) ∧ Rd wr r A cap bs p' ∧ p' ≤ p + 1 + 2 * L.length ∧ w.grownBy wr (some r)
theorem flat_setT {L : List TrackD} {i : Nat} {x : TrackD} {u v : Int} (h : L[i]? = some x) : ((L.flatMap encTrack).set (i * 2) (.int .i64 u)).set (i * 2 + 1) (.int .i64 v) = (L.set i ⟨u, v⟩).flatMap encTrack := by
  have hi := (List.getElem?_eq_some_iff.1 h).1
  have h0 := flat_set (k := 2) (enc := encTrack) (fun _ => rfl) (j := 0) (y' := (⟨u, x.Part⟩ : TrackD)) (v := .int .i64 u) h (by omega) rfl
  have h1 := flat_set (k := 2) (enc := encTrack) (fun _ => rfl) (j := 1) (y' := (⟨u, v⟩ : TrackD)) (v := .int .i64 v) (List.getElem?_set_self (l := L) (a := (⟨u, x.Part⟩ : TrackD)) hi) (by omega) rfl
  rw [Nat.add_zero] at h0
  rw [h0, h1, List.set_set]

set_option maxHeartbeats 2000000 in
theorem anyTracks_any (r : Nat) (A : Option Addr) (cap : Nat) (bs : List Int) (p : Nat) (w : World) (h : Rd w r A cap bs p) (hp : p ≤ 1000) :
    Calls Try.prog 26 #[.pointer (some ⟨r, 0, none⟩)] w (Drawn 2 9 encTrack w r A cap bs p) := by
  have hrlt := h.lt
  have H := hid h
  clear h
  go_enter Try.func26, Try.ntmps26
  go_wp2_with fail
  (with_reducible refine (oneLit r A cap bs p _ 7 [3, 2, 4, 1, 0, 8, 9] _ _ (H.out.alloc _) (by omega) ?_ ?_ rfl (by omega) (by omega)).mono ?_)
  · simp
  · rfl
  rintro e w1 ⟨x, rfl, hx, hr1⟩
  have hx' : ∃ n : Nat, x = n ∧ n ≤ 9 := by
    simp only [List.mem_cons, List.not_mem_nil, or_false] at hx
    exact ⟨x.toNat, by omega, by omega⟩
  obtain ⟨n0, rfl, hn0⟩ := hx'
  have R0 : Aside (TracksRel w r A cap bs p (some ⟨w.heap.size, 0, none⟩) 0 [] n0 w1) :=
    ⟨p + 1, by simpa using hn0, row_far (World.ownsRow_made w #[] 0 (Nat.le_refl _) (by simp [maxLen]) rfl) hr1.gr hrlt, hr1.rd, by simp, grown_trans (World.grownBy_alloc w _ _) hr1.gr⟩
  clear hx hr1
  go_wp2
  go_loopg [3, 4] 9 (fun gg s3 s4 wr => ∃ (n c : Nat) (A' : Option Addr) (L : List TrackD), n ≤ gg ∧ s3 = .slice A' L.length c ∧ s4 = .int .i64 n ∧ Aside (TracksRel w r A cap bs p A' c L n wr))
  case atStart => exact ⟨n0, 0, _, [], hn0, rfl, rfl, R0⟩
  case round =>
    obtain ⟨n, c, A', L, hng, rfl, rfl, R⟩ := hrel
    obtain ⟨p', hln, hown, hrd, hp', hgr⟩ := R.out
    clear R R0
    have RD := hid hrd
    have GR := hid hgr
    have HOWN := hid hown
    clear hrd hgr hown
    by_cases hpos : 0 < n
    · go_wp2_with fail
      (with_reducible refine (pick_any r A cap bs p' _ _ RD.out (by omega) (by omega)).mono ?_)
      rintro e w2 ⟨q, rfl, hq, hr2⟩
      clear hq
      have HR2 := hid hr2
      clear hr2
      by_cases hq0 : q = 0
      · subst hq0
        go_wp2_with fail
        (with_reducible refine (oneLit r A cap bs (p' + 1) _ 4 [50, 100, 0, 20] _ _ HR2.out.rd (by omega) ?_ ?_ rfl (by omega) (by omega)).mono ?_)
        · rfl
        · rfl
        rintro e w3 ⟨y, rfl, hy, hr3⟩
        clear hy
        have own3 := hid (row_far (row_far HOWN.out HR2.out.gr hrlt) hr3.gr hrlt)
        have HR3 := hid hr3
        have hb3 : w.heap.size ≤ w3.heap.size := Nat.le_trans GR.out.size (Nat.le_trans HR2.out.gr.size hr3.gr.size)
        clear hr3
        go_wp2_with (at_builtin; refine wpList_push eltTrackG rfl _ _ rfl w.heap.size _ _ _ own3.out (by omega) hb3 _ _ rfl rfl rfl rfl (ocTrack ⟨y, 0⟩) ?_)
        intro A2 c2 w4 hown4 hgr4 _
        have R : Aside (TracksRel w r A cap bs p A2 c2 (L ++ [⟨y, 0⟩]) (n - 1) w4) := by
          refine ⟨p' + 1 + 1, by simp; omega, ?_, HR3.out.rd.kept hgr4 ?_, by simp; omega, ?_⟩
          · rw [List.length_append, List.flatMap_append]; exact hown4
          · intro k hk; have := (own3.out.lt k hk).1; omega
          · exact grown_new (grown_trans (grown_trans GR.out HR2.out.gr) HR3.out.gr) hgr4 (fun g hg => (own3.out.lt g hg).1)
        clear hown4 hgr4
        go_wp2
        go_roundg (n - 1)
        case measure => omega
        case rel => exact ⟨n - 1, c2, A2, L ++ [⟨y, 0⟩], by omega, by simp, by go_num, R⟩
      · have hq0' : (q == 0) = false := by rw [beq_eq_false_iff_ne]; exact hq0
        have HQ0 := hid hq0
        clear hq0
        go_wp2_with fail
        (with_reducible refine (oneLit r A cap bs (p' + 1) _ 4 [1, 2, 3, 10] _ _ HR2.out.rd (by omega) ?_ ?_ rfl (by omega) (by omega)).mono ?_)
        · rfl
        · rfl
        rintro e w3 ⟨y, rfl, hy, hr3⟩
        clear hy
        have own3 := hid (row_far (row_far HOWN.out HR2.out.gr hrlt) hr3.gr hrlt)
        have HR3 := hid hr3
        have hb3 : w.heap.size ≤ w3.heap.size := Nat.le_trans GR.out.size (Nat.le_trans HR2.out.gr.size hr3.gr.size)
        clear hr3
        go_wp2_with (at_builtin; refine wpList_push eltTrackG rfl _ _ rfl w.heap.size _ _ _ own3.out (by omega) hb3 _ _ rfl rfl rfl rfl (ocTrack ⟨0, y⟩) ?_)
        intro A2 c2 w4 hown4 hgr4 _
        have R : Aside (TracksRel w r A cap bs p A2 c2 (L ++ [⟨0, y⟩]) (n - 1) w4) := by
          refine ⟨p' + 1 + 1, by simp; omega, ?_, HR3.out.rd.kept hgr4 ?_, by simp; omega, ?_⟩
          · rw [List.length_append, List.flatMap_append]; exact hown4
          · intro k hk; have := (own3.out.lt k hk).1; omega
          · exact grown_new (grown_trans (grown_trans GR.out HR2.out.gr) HR3.out.gr) hgr4 (fun g hg => (own3.out.lt g hg).1)
        clear hown4 hgr4
        go_wp2
        go_roundg (n - 1)
        case measure => omega
        case rel => exact ⟨n - 1, c2, A2, L ++ [⟨0, y⟩], by omega, by simp, by go_num, R⟩
    · have hn : n = 0 := by omega
      subst hn
      by_cases hl : 0 < L.length
      · go_wp2_with fail
        (with_reducible refine (pick_any r A cap bs p' _ _ RD.out (by omega) (by omega)).mono ?_)
        rintro e w2 ⟨x, rfl, hx, hr2⟩
        clear hx
        have HR2 := hid hr2
        clear hr2
        by_cases hx0 : x = 0
        · subst hx0
          go_wp2_with fail
          (with_reducible refine (pick_any r A cap bs (p' + 1) _ _ HR2.out.rd (by omega) (by omega)).mono ?_)
          rintro e w3 ⟨x, rfl, hx, hr3⟩
          obtain ⟨k, rfl⟩ := Int.eq_ofNat_of_zero_le hx.1
          have hk : k < L.length := by have := hx.2.1 (by omega); omega
          clear hx
          have HR3 := hid hr3
          clear hr3
          go_wp2_with fail
          (with_reducible refine (oneLit r A cap bs (p' + 1 + 1) _ 3 [5, 10001, -1] _ _ HR3.out.rd (by omega) ?_ ?_ rfl (by omega) (by omega)).mono ?_)
          · rfl
          · rfl
          rintro e w4 ⟨y, rfl, hy, hr4⟩
          clear hy
          have HR4 := hid hr4
          clear hr4
          go_wp2_with fail
          (with_reducible refine (oneLit r A cap bs (p' + 1 + 1 + 1) _ 3 [1, 11, 0] _ _ HR4.out.rd (by omega) ?_ ?_ rfl (by omega) (by omega)).mono ?_)
          · rfl
          · rfl
          rintro e w5 ⟨z, rfl, hz, hr5⟩
          clear hz
          have own5 := row_far (row_far (row_far (row_far HOWN.out HR2.out.gr hrlt) HR3.out.gr hrlt) HR4.out.gr hrlt) hr5.gr hrlt
          have HR5 := hid hr5
          clear hr5
          obtain ⟨g, c', e1, hgb, _⟩ := own5.form hl
          injection e1 with e1 _ e2
          subst e1
          subst e2
          have hx := List.getElem?_eq_getElem hk
          have fc0 := flat_get (enc := encTrack) (k := 2) (fun _ => rfl) hx (j := 0) rfl
          have fc1 := flat_get (enc := encTrack) (k := 2) (fun _ => rfl) hx (j := 1) rfl
          have c1 : w5.cell? ⟨g, k * 2, none⟩ = some (.int .i64 L[k].Size) := by rw [own5.cellAt _ (by omega)]; simpa using fc0
          have c2 : w5.cell? ⟨g, k * 2 + 1, none⟩ = some (.int .i64 L[k].Part) := by rw [own5.cellAt _ (by omega)]; simpa using fc1
          have f1 : w5.frozen? ⟨g, k * 2, none⟩ = false := own5.frozenAt _
          have f2 : w5.frozen? ⟨g, k * 2 + 1, none⟩ = false := own5.frozenAt _
          have own6 := own5.stored (k * 2) (.int .i64 y)
          have own7 := own6.1.stored (k * 2 + 1) (.int .i64 z)
          have own8 := own7.1
          rw [flat_setT hx] at own8
          have O8 := hid own8
          have G6 := hid (grown_trans own6.2 own7.2)
          have O5 := hid own5
          clear own5 own6 own7 own8 fc0 fc1 hx
          go_wp2
          go_ret
          have hlen : (L.set k (⟨y, z⟩ : TrackD)).length = L.length := by simp
          refine ⟨_, _, L.set k ⟨y, z⟩, p' + 1 + 1 + 1 + 1, by rw [hlen]; rfl, by omega, ?_, (slice_le O5.out).2, OwnA.of_row (c := c) (e := 43) (fun _ => rfl) ?_, HR5.out.rd.kept G6.out ?_, by omega, ?_⟩
          · rw [hlen]; exact (slice_le O5.out).1
          · rw [hlen]; exact O8.out
          · intro q hq; injection hq with hq; omega
          · exact grown_new (grown_trans (grown_trans (grown_trans (grown_trans GR.out HR2.out.gr) HR3.out.gr) HR4.out.gr) HR5.out.gr) G6.out (fun q hq => by injection hq with hq; omega)
        · have hx0' : (x == 0) = false := by rw [beq_eq_false_iff_ne]; exact hx0
          have HX := hid hx0
          clear hx0
          go_wp2
          go_ret
          exact ⟨A', c, L, p' + 1, rfl, by omega, (slice_le (row_far HOWN.out HR2.out.gr hrlt)).1, (slice_le (row_far HOWN.out HR2.out.gr hrlt)).2, OwnA.of_row (fun _ => rfl) (row_far HOWN.out HR2.out.gr hrlt), HR2.out.rd, by omega, grown_trans GR.out HR2.out.gr⟩
      · go_wp2
        go_ret
        exact ⟨A', c, L, p', rfl, by omega, (slice_le HOWN.out).1, (slice_le HOWN.out).2, OwnA.of_row (fun _ => rfl) HOWN.out, RD.out, by omega, GR.out⟩

def DrawnNum (w : World) (r : Nat) (A : Option Addr) (cap : Nat) (bs : List Int) (p k : Nat) (e : Ending) (w' : World) : Prop :=
  ∃ x : Int, e = .returned (.int .i64 x) ∧ RStep w r A cap bs (p + k) w'
set_option maxHeartbeats 400000 in
theorem someGap_any (r : Nat) (A : Option Addr) (cap : Nat) (bs : List Int) (p : Nat) (w : World) (h : Rd w r A cap bs p) (hp : p ≤ 100000) :
    Calls Try.prog 28 #[.pointer (some ⟨r, 0, none⟩)] w (DrawnNum w r A cap bs p 1) := by
  have H := hid h
  clear h
  go_enter Try.func28, Try.ntmps28
  go_wp2_with fail
  (with_reducible refine (oneLit r A cap bs p _ 8 [0, 1, 5, 10, 50, 51, -1, 2] _ _ H.out (by omega) ?_ ?_ rfl (by omega) (by omega)).mono ?_)
  · rfl
  · rfl
  rintro e w1 ⟨x, rfl, hx, hr1⟩
  have HR := hid hr1
  clear hr1 hx
  go_wp2
  go_ret
  exact ⟨x, rfl, HR.out⟩
set_option maxHeartbeats 400000 in
theorem someSpace_any (r : Nat) (A : Option Addr) (cap : Nat) (bs : List Int) (p : Nat) (w : World) (h : Rd w r A cap bs p) (hp : p ≤ 100000) :
    Calls Try.prog 27 #[.pointer (some ⟨r, 0, none⟩)] w (DrawnNum w r A cap bs p 2) := by
  have H := hid h
  clear h
  go_enter Try.func27, Try.ntmps27
  go_wp2_with fail
  (with_reducible refine (pick_any r A cap bs p _ _ H.out (by omega) (by omega)).mono ?_)
  rintro e w1 ⟨q, rfl, hq, hr1⟩
  have q0 : 0 ≤ q := hq.1
  have q1 : q < 250 := hq.2.1 (by omega)
  have HR1 := hid hr1
  clear hr1 hq
  go_wp2_with fail
  (with_reducible refine (oneLit r A cap bs (p + 1) _ 10 [0, 100, 300, 1000, 50, 200000, 200001, -1, 5 * q, 700] _ _ HR1.out.rd (by omega) ?_ ?_ rfl (by omega) (by omega)).mono ?_)
  · rfl
  · rfl
  rintro e w2 ⟨x, rfl, hx, hr2⟩
  have HR := hid hr2
  clear hr2 hx
  go_wp2
  go_ret
  exact ⟨x, rfl, HR.out.rd, grown_trans HR1.out.gr HR.out.gr⟩

/-- What the law's generator leaves. -/
def DrawnSpan (w : World) (e : Ending) (w' : World) : Prop :=
  ∃ (A' : Option Addr) (c : Nat) (L : List TrackD) (sp gap fr ma : Int), e = .returned (.tuple #[.slice A' L.length c, .int .i64 sp, .int .i64 gap, .int .i64 fr, .int .i64 ma]) ∧ L.length ≤ 9 ∧ L.length ≤ c ∧ c ≤ maxLen ∧ OwnA w' w.heap.size 2 encTrack A' L ∧ Below w.heap.size w w'

set_option maxHeartbeats 1000000 in
theorem drawSpanOf_any (A : Option Addr) (cap : Nat) (bs : List Int) (w : World) (h : Code w A cap bs) :
    Calls Try.prog 14 #[.slice A bs.length cap] w (DrawnSpan w) := by
  have hc := newReader_any A cap bs w h
  clear h
  go_enter Try.func14, Try.ntmps14
  go_wp2_with fail
  refine hc.mono ?_
  rintro e w1 ⟨rfl, ⟨cap', hrd⟩, hb, hlt⟩
  have HB := hid hb
  have hc2 := anyTracks_any _ A cap' _ 0 w1 hrd (by omega)
  clear hrd hb hc
  go_wp2_with fail
  refine hc2.mono ?_
  rintro e w2 ⟨A', c, L, p', rfl, h1, h2, h3, h4, h5, h6, h7⟩
  have H7 := hid h7
  have H4 := hid h4
  have hc3 := someSpace_any _ A cap' _ p' w2 h5 (by omega)
  clear h7 h4 h5 hc2
  go_wp2_with fail
  refine hc3.mono ?_
  rintro e w3 ⟨x, rfl, hr3⟩
  have HR3 := hid hr3
  have hc4 := someGap_any _ A cap' _ (p' + 2) w3 hr3.rd (by omega)
  clear hr3 hc3
  go_wp2_with fail
  refine hc4.mono ?_
  rintro e w4 ⟨y, rfl, hr4⟩
  have HR4 := hid hr4
  clear hr4 hc4
  go_wp2_with fail
  (with_reducible refine (pick_any _ A cap' _ (p' + 2 + 1) _ _ HR4.out.rd (by omega) (by omega)).mono ?_)
  rintro e w5 ⟨u, rfl, hu, hr5⟩
  have u0 := hu.1
  have u1 : u < (L.length : Int) + 2 := hu.2.1 (by omega)
  have HR5 := hid hr5
  clear hr5 hu
  go_wp2_with fail
  (with_reducible refine (pick_any _ A cap' _ (p' + 2 + 1 + 1) _ _ HR5.out.rd (by omega) (by omega)).mono ?_)
  rintro e w6 ⟨v, rfl, hv, hr6⟩
  have HR6 := hid hr6
  clear hr6 hv
  go_wp2
  have g1 := grown_trans (grown_trans (grown_trans (grown_trans H7.out HR3.out.gr) HR4.out.gr) HR5.out.gr) HR6.out.gr
  have ho : OwnA w6 w.heap.size 2 encTrack A' L := by
    have o1 := H4.out.apart HR3.out.gr (fun g hg => by injection hg with hg; exact .inl (by omega))
    have o2 := o1.apart HR4.out.gr (fun g hg => by injection hg with hg; exact .inl (by omega))
    have o3 := o2.apart HR5.out.gr (fun g hg => by injection hg with hg; exact .inl (by omega))
    have o4 := o3.apart HR6.out.gr (fun g hg => by injection hg with hg; exact .inl (by omega))
    exact o4.less HB.out.size
  refine bodyPost_ret (v := .tuple #[.slice A' L.length c, .int .i64 x, .int .i64 y, .int .i64 (u - 1), .int .i64 v]) (by simp [results, Try.results14, go_sem]) rfl ?_
  exact ⟨A', c, L, x, y, u - 1, v, rfl, h1, h2, h3, ho, below_of_grown HB.out g1 HB.out.size (Nat.le_refl _)⟩
end Go.Proofs.Ytjebjcabggmaiaa
