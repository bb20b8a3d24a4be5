/- FnCommonBoxPath: the walk. Written by a program of ours. -/
import Derived.Test.YtjomdcnelamefaaB19
namespace Go.Proofs.Ytjomdcnelamefaa
set_option linter.unusedVariables false
set_option linter.unusedSimpArgs false
open Go.RowKit Go.Lib

/-- What the last hit is. -/
def LastIs (T : List BoxD) (a b i : Nat) (last : Int) : Prop := (∀ j n, j < i → (pathOf T a)[j]? = some n → n ∈ up T b → (n : Int) ≤ last) ∧ (last = -1 ∨ ∃ n : Nat, last = n ∧ n ∈ up T a ∧ n ∈ up T b)
theorem path_asc {T : List BoxD} {n a i j p q : Nat} (h : Desc T n) (ha : a < n) (hij : i < j) (hp : (pathOf T a)[i]? = some p) (hq : (pathOf T a)[j]? = some q) : p < q := by
  have hf : (pathOf T a).Pairwise (· < ·) := by
    unfold pathOf
    rw [List.pairwise_reverse]
    exact up_fall h a ha
  rw [List.pairwise_iff_getElem] at hf
  obtain ⟨h1, h2⟩ := List.getElem?_eq_some_iff.1 hp
  obtain ⟨h3, h4⟩ := List.getElem?_eq_some_iff.1 hq
  have := hf i j h1 h3 hij
  rw [h2, h4] at this
  exact this
theorem last_no {T : List BoxD} {a b i q : Nat} {last : Int} (h : LastIs T a b i last) (hq : (pathOf T a)[i]? = some q) (hn : ¬ q ∈ up T b) : LastIs T a b (i + 1) last :=
  ⟨fun j n hj hp hb => by
    by_cases e : j = i
    · subst e; rw [hq] at hp; injection hp with hp; subst hp; exact absurd hb hn
    · exact h.1 j n (by omega) hp hb, h.2⟩
theorem last_yes {T : List BoxD} {m a b i q : Nat} {last : Int} (hd : Desc T m) (ha : a < m) (hq : (pathOf T a)[i]? = some q) (hn : q ∈ up T b) : LastIs T a b (i + 1) (q : Int) :=
  ⟨fun j n hj hp hb => by
    by_cases e : j = i
    · subst e; rw [hq] at hp; injection hp with hp; subst hp; exact Int.le_refl _
    · have := path_asc hd ha (show j < i by omega) hp hq; omega, .inr ⟨q, rfl, mem_path.1 (List.mem_of_getElem? hq), hn⟩⟩
theorem last_end {T : List BoxD} {m a b i K : Nat} {last : Int} (hd : Desc T m) (ha : a < m) (hb : b < m) (h : LastIs T a b i last) (hi : i = (pathOf T a).length) (hK : common T a b = K) : last = (K : Int) := by
  have hcs := common_spec hd ha hb
  rw [hK] at hcs
  obtain ⟨j, hj⟩ := List.mem_iff_getElem?.1 (mem_path.2 hcs.1)
  have h1 := h.1 j K (by rw [hi]; exact (List.getElem?_eq_some_iff.1 hj).1) hj hcs.2.1
  rcases h.2 with h2 | ⟨n, h2, h3, h4⟩
  · omega
  · have := hcs.2.2 n h3 h4; omega
set_option maxRecDepth 100000 in
set_option maxHeartbeats 4000000 in
theorem fnCommonBoxPath_any (A : Option Addr) (cap : Nat) (bs : List Int) (w : World) (h : Code w A cap bs) :
    Calls Try.prog 12 #[.slice A bs.length cap] w (Yes w) := by
  have hcap := h.cap1
  have hcap2 := h.cap2
  by_cases hbig : 1048576 < bs.length
  · clear h
    go_enter Try.func12, Try.ntmps12
    go_wp2
    go_ret
    exact ⟨rfl, Below.refl _ _⟩
  · have hd := drawCommonBox_any A cap bs w h
    clear h
    go_enter Try.func12, Try.ntmps12
    go_wp2_with fail
    refine hd.mono ?_
    rintro e w1 ⟨A1, c1, T, x, y, rfl, hx, hy, hl, hc1, hc2, ha, b1⟩
    have H1 := hid ha
    have B1 := hid b1
    have hl2 : T.length ≤ 1048576 := by omega
    clear ha b1 hd
    cases hat : atIn T x
    · have HV := hid (commonV_out1 (y := y) hat)
      clear hat
      go_wp2_with fail
      refine (commonBox_eq hl2 H1.out HV.out).mono ?_
      rintro e w2 ⟨rfl, b⟩
      have B2 := hid (chain B1.out b)
      have H2 := hid (H1.out.next b)
      clear b
      go_wp2_with fail
      refine (commonBoxS_eq hl2 H2.out HV.out).mono ?_
      rintro e w3 ⟨rfl, b⟩
      have B3 := hid (chain B2.out b)
      have H3 := hid (H2.out.next b)
      clear b
      go_wp2_with fail
      refine (commonBoxS_eq hl2 H3.out HV.out).mono ?_
      rintro e w4 ⟨rfl, b⟩
      have B4 := hid (chain B3.out b)
      have H4 := hid (H3.out.next b)
      clear b
      go_wp2_with fail
      go_ret
      exact ⟨rfl, B4.out⟩
    obtain ⟨a, rfl, ha, v⟩ := atIn_nat hat
    cases hin : atIn T y
    · have HV := hid (commonV_out2 (x := (a : Int)) hin)
      clear hin hat v
      go_wp2_with fail
      refine (commonBox_eq hl2 H1.out HV.out).mono ?_
      rintro e w2 ⟨rfl, b⟩
      have B2 := hid (chain B1.out b)
      have H2 := hid (H1.out.next b)
      clear b
      go_wp2_with fail
      refine (commonBoxS_eq hl2 H2.out HV.out).mono ?_
      rintro e w3 ⟨rfl, b⟩
      have B3 := hid (chain B2.out b)
      have H3 := hid (H2.out.next b)
      clear b
      go_wp2_with fail
      refine (commonBoxS_eq hl2 H3.out HV.out).mono ?_
      rintro e w4 ⟨rfl, b⟩
      have B4 := hid (chain B3.out b)
      have H4 := hid (H3.out.next b)
      clear b
      go_wp2_with fail
      go_ret
      exact ⟨rfl, B4.out⟩
    obtain ⟨b, rfl, hb, -⟩ := atIn_nat hin
    obtain ⟨K, hK⟩ : ∃ K, common T a b = K := ⟨_, rfl⟩
    have hcs := common_spec v.ord.1 ha hb
    have hKn := common_lt v.ord.1 ha hb
    rw [hK] at hcs hKn
    have HV := hid (show commonV T (a : Int) (b : Int) = (K : Int) by rw [commonV_in v ha hb, hK])
    have HPp := hid (pathV_in v ha)
    obtain ⟨mp, hmp⟩ : ∃ m, (asI (pathOf T a)).length = m := ⟨_, rfl⟩
    have HNp := hid hmp
    have hm6p : mp ≤ 6 := by have := v.dep a ha; rw [asI_len, path_len] at hmp; omega
    have HPq := hid (pathV_in v hb)
    obtain ⟨mq, hmq⟩ : ∃ m, (asI (pathOf T b)).length = m := ⟨_, rfl⟩
    have HNq := hid hmq
    have hm6q : mq ≤ 6 := by have := v.dep b hb; rw [asI_len, path_len] at hmq; omega
    have HKK := hid hK
    have VV := hid v
    clear hat hin hK hcs hmp hmq v
    go_wp2_with fail
    refine (commonBox_eq hl2 H1.out HV.out).mono ?_
    rintro e w2 ⟨rfl, b⟩
    have B2 := hid (chain B1.out b)
    have H2 := hid (H1.out.next b)
    clear b
    go_wp2_with fail
    refine (commonBoxS_eq hl2 H2.out HV.out).mono ?_
    rintro e w3 ⟨rfl, b⟩
    have B3 := hid (chain B2.out b)
    have H3 := hid (H2.out.next b)
    clear b
    go_wp2_with fail
    refine (pathTo_eq hl2 H3.out HPp.out HNp.out).mono ?_
    rintro e w4 ⟨lA, lc, rfl, lh1, lh2, ar, b⟩
    have B4 := hid (chain B3.out b)
    have H4 := hid (H3.out.next b)
    have lR := hid ar
    clear b ar
    go_wp2_with fail
    refine (pathTo_eq hl2 H4.out HPq.out HNq.out).mono ?_
    rintro e w5 ⟨rA, rc, rfl, rh1, rh2, ar, b⟩
    have B5 := hid (chain B4.out b)
    have H5 := hid (H4.out.next b)
    have rR := hid ar
    have lR := hid (lR.out.next b)
    clear b ar
    go_wp2_with fail
    go_loopg [9, 10] mp (fun gg s9 s10 wr => ∃ (i : Nat) (last : Int), i ≤ mp ∧ mp - i ≤ gg ∧ s9 = .int .i64 last ∧ s10 = .int .i64 i ∧ Aside (LastIs T a b i last) ∧ Aside (Below w5.heap.size w5 wr))
    case atStart => exact ⟨0, -1, Nat.zero_le _, by omega, rfl, rfl, ⟨fun j n hj => absurd hj (Nat.not_lt_zero _), .inl rfl⟩, Below.refl _ _⟩
    case round =>
      obtain ⟨i, last, hi, hgg, rfl, rfl, N, R⟩ := hrel
      have LW := hid (lR.out.next R.out)
      have RW := hid (rR.out.next R.out)
      have BW := hid (chain B5.out R.out)
      by_cases hlt : i < mp
      · obtain ⟨p, off', z, rfl, hp, hx, d1⟩ := LW.out.at1 (show i < _ by rw [HNp.out]; exact hlt)
        obtain ⟨q, rfl, hq⟩ := asI_at' hx
        have i1 : (0 : Int) ≤ (i : Int) := by omega
        have i2 : (i : Int) < (mp : Int) := by omega
        have D1 := hid d1
        cases hr : aroundB T q b
        · have HC := hid (show (asI (pathOf T b)).contains (q : Int) = false by rw [← hr, Bool.eq_iff_iff, List.contains_iff_mem, asI_mem, mem_path, aroundB_iff])
          have F : Aside (LastIs T a b (i + 1) last) := last_no N.out hq (fun h => by rw [← aroundB_iff, hr] at h; cases h)
          clear hr hx hq N
          go_wp2_with fail
          refine (isIn_n HNq.out (by omega) RW.out HC.out).mono ?_
          rintro e w9 ⟨rfl, b9⟩
          have R9 := hid (chain R.out b9)
          have d2 := (b9.cell (p := ⟨p, off' + i, none⟩) hp).trans D1.out
          clear b9
          go_wp2_with fail
          go_roundg (mp - (i + 1))
          case measure => omega
          case rel => exact ⟨i + 1, last, by omega, by omega, rfl, by go_num, F, R9.out⟩
        · have HC := hid (show (asI (pathOf T b)).contains (q : Int) = true by rw [← hr, Bool.eq_iff_iff, List.contains_iff_mem, asI_mem, mem_path, aroundB_iff])
          have F : Aside (LastIs T a b (i + 1) (q : Int)) := last_yes (last := last) VV.out.ord.1 ha hq (aroundB_iff.1 hr)
          clear hr hx hq N
          go_wp2_with fail
          refine (isIn_n HNq.out (by omega) RW.out HC.out).mono ?_
          rintro e w9 ⟨rfl, b9⟩
          have R9 := hid (chain R.out b9)
          have d2 := (b9.cell (p := ⟨p, off' + i, none⟩) hp).trans D1.out
          clear b9
          go_wp2_with fail
          go_roundg (mp - (i + 1))
          case measure => omega
          case rel => exact ⟨i + 1, q, by omega, by omega, rfl, by go_num, F, R9.out⟩
      · obtain rfl : last = (K : Int) := last_end VV.out.ord.1 ha hb N.out (by have := HNp.out; rw [asI_len] at this; omega) HKK.out
        clear N
        go_wp2_with fail
        go_ret
        exact ⟨by first | rfl | (simp; done) | (simp; omega), BW.out⟩

#print axioms fnCommonBoxPath_any
end Go.Proofs.Ytjomdcnelamefaa
