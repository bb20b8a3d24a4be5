/- spec.LineCounts. -/
import Derived.Test.YtjkcejijdpmhoaaC2
namespace Go.Proofs.Ytjkcejijdpmhoaa
open Go.RowKit Go.Lib

/-- The loop's relation. -/
def KRel (w : World) (width gap : Int) (L : List (Int × Int)) (i : Nat) (A7 : Option Addr) (n7 c7 : Nat) (C : List Int) (used : Int) (wr : World) : Prop :=
  n7 = C.length ∧ C.length ≤ i ∧ CInv width gap L i C used ∧ wr.ownsRow w.heap.size 3 1 (.slice A7 n7 c7) n7 (C.flatMap encI) ∧ Below w.heap.size w wr

theorem flat_setI {C : List Int} {n : Int} {u : Int} : (((C ++ [n]).flatMap encI).set C.length (.int .i64 u)) = (C ++ [u]).flatMap encI := by
  rw [flat_encI, flat_encI]
  simp

theorem CInv_bd {width gap : Int} {L : List (Int × Int)} {i : Nat} {D : List Int} {m used : Int} (h : CInv width gap L i (D ++ [m]) used) : m ≤ L.length ∧ -(L.length : Int) ≤ m := by
  rcases h with ⟨_, h⟩ | ⟨_, D', n', he, hc⟩
  · simp at h
  · obtain ⟨rfl, h2⟩ := List.append_inj' he rfl
    injection h2 with h2
    subst h2
    have hm : m + (fit width gap used (L.drop i) : Int) ∈ cnt width gap L := by rw [hc]; simp
    have := cnt_le hm
    have h3 := fit_le width gap (L.drop i) used
    rw [List.length_drop] at h3
    omega

set_option maxHeartbeats 2000000 in
theorem specCounts_any (A : Option Addr) (L : List (Int × Int)) (c : Nat) (width gap : Int) (w : World) (hv : validL L = true) (hw : 0 ≤ width ∧ width ≤ 10000) (hg : 0 ≤ gap ∧ gap ≤ 50) (h : Arr w w.heap.size 2 encP A L) :
    Calls Try.prog 61 #[.slice A L.length c, .int .i64 width, .int .i64 gap] w (Gives 1 encI (cnt width gap L) w) := by
  obtain ⟨hw0, hw1⟩ := hw
  obtain ⟨hg0, hg1⟩ := hg
  have hl12 := (validL_iff.1 hv).1
  have HOK := hid (validL_iff.1 hv).2
  have H := hid h
  have R0 : ∀ wr o, wr = w.alloc o → o = .cells #[] 3 → Aside (KRel w width gap L 0 (some ⟨w.heap.size, 0, none⟩) 0 0 [] 0 wr) := fun wr o e1 e2 => by
    subst e1 e2
    exact ⟨rfl, Nat.le_refl _, .inl ⟨rfl, rfl⟩, World.ownsRow_made w #[] 0 (Nat.le_refl _) (by simp [maxLen]) rfl, (Below.refl _ _).alloc (Nat.le_refl _) _⟩
  clear hv h
  go_enter Try.func61, Try.ntmps61
  go_wp2
  go_loopg [7, 8, 9] L.length (fun gg s7 s8 s9 wr => ∃ (i : Nat) (A7 : Option Addr) (n7 c7 : Nat) (C : List Int) (used : Int), i ≤ L.length ∧ L.length - i ≤ gg ∧ s7 = .slice A7 n7 c7 ∧ s8 = .int .i64 used ∧ s9 = .int .i64 i ∧ 0 ≤ used ∧ used ≤ 10000 ∧ Aside (KRel w width gap L i A7 n7 c7 C used wr))
  case atStart => exact ⟨0, _, 0, 0, [], 0, Nat.zero_le _, by omega, rfl, rfl, rfl, by omega, by omega, R0 _ _ rfl rfl⟩
  case round =>
    obtain ⟨i, A7, n7, c7, C, used, hi, hgg, rfl, rfl, rfl, hu0, hu1, R⟩ := hrel
    clear R0
    obtain ⟨hn7, hCi, hinv, hown, hb⟩ := R.out
    have HN := hid hn7
    have HI := hid hinv
    have HO := hid hown
    have HB := hid hb
    have hn7i : n7 ≤ i := by omega
    have hsz := hb.size
    clear R hn7 hinv hown hb
    by_cases hlt : i < L.length
    · obtain ⟨b, off, x, y, rfl, hbb, hx, q1, q2⟩ := H.out.at2 hlt
      have c1 := (HB.out.cell (p := ⟨b, off + i * 2, none⟩) hbb).trans q1
      have Q1 := hid q1
      clear q1 q2
      have hxx := (okP_bd (HOK.out _ (List.mem_of_getElem? hx))).1
      have hx0 : 0 ≤ x := hxx.1
      have hx1 : x ≤ 10000 := hxx.2
      have HX := hid hx
      clear hx hxx
      have hn : n7 ≤ 1000000 := by omega
      by_cases h0 : n7 = 0
      · have hC : C = [] := List.eq_nil_of_length_eq_zero (by rw [← HN.out]; exact h0)
        subst hC h0
        have HNew := hid (HI.out.new HX.out (.inl rfl))
        go_wp2_with (at_builtin; refine wpList_push eltInt rfl (.tmp 53) (.tmp 54) rfl w.heap.size _ 0 _ HO.out (by omega) hsz _ _ rfl rfl rfl rfl (oc1 _) ?_; intro A8 c8 w8 own8 gr8 at8; have hb8 := HB.out.grown gr8 hsz (fun g hg => (HO.out.lt g hg).1); have d1 := (hb8.cell (p := ⟨b, off + i * 2, none⟩) hbb).trans Q1.out; have O8 := hid own8; have B8 := hid hb8; clear own8 gr8 at8 hb8)
        go_roundg (L.length - (i + 1))
        case measure => omega
        case rel =>
          refine ⟨i + 1, A8, 1, c8, [1], x, by omega, by omega, rfl, rfl, by go_num, hx0, hx1, rfl, by simp, HNew.out, O8.out, B8.out⟩
      · have hnp : 1 ≤ n7 := by omega
        by_cases hle : used + gap + x ≤ width
        · have hCp : C ≠ [] := by
            intro e
            subst e
            have := HN.out
            simp at this
            omega
          obtain ⟨D, m, rfl⟩ : ∃ D m, C = D ++ [m] := ⟨C.dropLast, C.getLast hCp, (List.dropLast_concat_getLast hCp).symm⟩
          have hnD : n7 = D.length + 1 := by rw [HN.out]; simp
          have HNew := hid (HI.out.more HX.out hle)
          subst hnD
          obtain ⟨g, c', e1, hgb, _⟩ := HO.out.form (by omega)
          injection e1 with e1 _ e2
          subst e1
          subst e2
          have k1 : wr.cell? ⟨g, D.length, none⟩ = some (.int .i64 m) := by rw [HO.out.cellAt _ (by omega), flat_encI]; simp
          have k2 : wr.frozen? ⟨g, D.length, none⟩ = false := HO.out.frozenAt _
          have ST := HO.out.stored D.length (.int .i64 (m + 1))
          rw [flat_setI] at ST
          obtain ⟨hm1, hm2⟩ := CInv_bd HI.out
          have O8 := hid ST.1
          have B8 := hid (HB.out.grown ST.2 hsz (fun q hq => by injection hq with hq; omega))
          have d1 := (B8.out.cell (p := ⟨b, off + i * 2, none⟩) hbb).trans Q1.out
          have hne : b ≠ g := by omega
          clear ST
          go_wp2
          go_roundg (L.length - (i + 1))
          case measure => omega
          case rel => exact ⟨i + 1, _, D.length + 1, _, D ++ [m + 1], used + gap + x, by omega, by omega, rfl, rfl, by go_num, by omega, by omega, by simp, by simp; omega, HNew.out, O8.out, B8.out⟩
        · have HNew := hid (HI.out.new HX.out (.inr hle))
          go_wp2_with (at_builtin; refine wpList_push eltInt rfl (.tmp 53) (.tmp 54) rfl w.heap.size _ n7 _ HO.out (by omega) hsz _ _ rfl rfl rfl rfl (oc1 _) ?_; intro A8 c8 w8 own8 gr8 at8; have hb8 := HB.out.grown gr8 hsz (fun g hg => (HO.out.lt g hg).1); have d1 := (hb8.cell (p := ⟨b, off + i * 2, none⟩) hbb).trans Q1.out; have O8 := hid own8; have B8 := hid hb8; clear own8 gr8 at8 hb8)
          go_roundg (L.length - (i + 1))
          case measure => omega
          case rel =>
            refine ⟨i + 1, A8, n7 + 1, c8, C ++ [1], x, by omega, by omega, rfl, rfl, by go_num, hx0, hx1, by rw [HN.out]; simp, by simp; omega, HNew.out, ?_, B8.out⟩
            rw [List.flatMap_append]
            exact O8.out
    · have : i = L.length := by omega
      subst this
      go_wp2
      go_ret
      have hC := HI.out.end_
      refine ⟨A7, c7, by rw [← hC, ← HN.out]; rfl, by rw [← hC, ← HN.out]; exact (slice_le HO.out).1, (slice_le HO.out).2, ?_, HB.out⟩
      rw [← hC]
      exact OwnA.of_rowN (enc := encI) (k := 1) (fun _ => rfl) HN.out rfl HO.out

set_option maxHeartbeats 400000 in
theorem specLineCounts_any (A : Option Addr) (L : List (Int × Int)) (c : Nat) (width gap : Int) (w : World) (hL : L.length ≤ 1048576) (h : Arr w w.heap.size 2 encP A L) :
    Calls Try.prog 27 #[.slice A L.length c, .int .i64 width, .int .i64 gap] w (Gives 1 encI (countsOf L width gap) w) := by
  have hk := validWrap_any A L c width gap w (by omega) h
  cases hq : okL L width gap with
  | false =>
    have e : countsOf L width gap = [] := by simp [countsOf, hq]
    rw [e]
    rw [hq] at hk
    clear hq e h
    go_enter Try.func27, Try.ntmps27
    go_wp2_with fail
    refine hk.mono ?_
    rintro e w' ⟨rfl, rfl⟩
    clear hk
    go_wp2
    go_ret
    exact ⟨none, 0, rfl, by simp, by simp [maxLen], fun h => absurd h (by simp), Below.refl _ _⟩
  | true =>
    have e : countsOf L width gap = cnt width gap L := by simp [countsOf, hq]
    rw [e]
    obtain ⟨hv, hw, hg⟩ := okL_bd hq
    have hcc := specCounts_any A L c width gap w hv hw hg h
    rw [hq] at hk
    clear hq e h hv hw hg
    go_enter Try.func27, Try.ntmps27
    go_wp2_with fail
    refine hk.mono ?_
    rintro e w' ⟨rfl, rfl⟩
    clear hk
    go_wp2_with fail
    refine hcc.mono ?_
    rintro e w' ⟨A', c', rfl, h1, h2, h3, h4⟩
    have H3 := hid h3
    have H4 := hid h4
    clear hcc h3 h4
    go_wp2
    go_ret
    exact ⟨A', c', rfl, h1, h2, H3.out, H4.out⟩
end Go.Proofs.Ytjkcejijdpmhoaa
