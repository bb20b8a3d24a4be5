/- FnLineCountsOne: the walk. -/
import Derived.Test.YtjkcejijdpmhoaaG
namespace Go.Proofs.Ytjkcejijdpmhoaa
open Go.RowKit Go.Lib

theorem head_one {gap : Int} (hg : 0 ≤ gap) {L : List (Int × Int)} (hp : ∀ p ∈ L, 1 ≤ p.1) (h : 0 < L.length) : head 0 gap L = 1 := by
  match L, h with
  | p :: R, _ =>
    have h1 := hp p (by simp)
    match R with
    | [] => rfl
    | q :: R =>
      have h2 := hp q (by simp)
      show (if p.1 + gap + q.1 ≤ 0 then _ else 0) + 1 = 1
      rw [if_neg (by omega)]
theorem cnt_one (gap : Int) (hg : 0 ≤ gap) (n : Nat) : ∀ L : List (Int × Int), L.length ≤ n → (∀ p ∈ L, 1 ≤ p.1) → (cnt 0 gap L).length = L.length := by
  induction n with
  | zero =>
    intro L h _
    have : L = [] := List.eq_nil_of_length_eq_zero (by omega)
    subst this
    rfl
  | succ n ih =>
    intro L h hp
    rcases Nat.eq_zero_or_pos L.length with h0 | h0
    · have : L = [] := List.eq_nil_of_length_eq_zero h0
      subst this
      rfl
    · have h1 := head_one hg hp h0
      rw [cnt_cons 0 gap h0, h1, List.length_cons, ih (L.drop 1) (by rw [List.length_drop]; omega) (fun p hq => hp p (List.mem_of_mem_drop hq)), List.length_drop]
      omega
set_option maxHeartbeats 2000000 in
theorem fnLineCountsOne_any (A : Option Addr) (cap : Nat) (bs : List Int) (w : World) (h : Code w A cap bs) :
    Calls Try.prog 5 #[.slice A bs.length cap] w (Yes w) := by
  have hcap := h.cap1
  have hcap2 := h.cap2
  by_cases hbig : 1048576 < bs.length
  · clear h
    go_enter Try.func5, Try.ntmps5
    go_wp2
    go_ret
    exact ⟨rfl, Below.refl _ _⟩
  · have hd := drawLineCounts_any A cap bs w h
    clear h
    go_enter Try.func5, Try.ntmps5
    go_wp2_with fail
    refine hd.mono ?_
    rintro e w1 ⟨A', c, L, x, y, rfl, hL, hc1, hc2, o1, b1⟩
    have B1 := hid b1
    have H1 := hid o1.arr
    have hlc := lineCounts_any A' L c x y w1 (by omega) hc1 hc2 H1.out
    have hCl := counts_len (x := x) (y := y) hL
    clear b1 o1 hd
    generalize hC : countsOf L x y = C at hlc hCl
    have HC := hid hC
    clear hC
    go_wp2_with fail
    refine hlc.mono ?_
    rintro e w2 ⟨A2, c2, rfl, -, -, o2, b2⟩
    have B2 := hid b2
    have H2 := hid (H1.out.next b2)
    have O2 := hid o2.arr
    have hsc := specLineCounts_any A' L c x y w2 (by omega) H2.out
    rw [HC.out] at hsc
    clear b2 o2 hlc
    go_wp2_with fail
    refine hsc.mono ?_
    rintro e w3 ⟨A3, c3, rfl, -, -, o3, b3⟩
    have B3 := hid b3
    have H3 := hid (H2.out.next b3)
    have heq := equalInts_same A2 A3 C c2 c3 w3 (by omega) (O2.out.next b3) o3.arr
    have O3 := hid (O2.out.next b3)
    clear b3 o3 hsc
    by_cases h0 : C.length = 0
    · have h0' : ((C.length : Int) == 0) = true := by rw [beq_iff_eq]; omega
      have HZ := hid h0
      clear h0
      go_wp2_with fail
      refine heq.mono ?_
      rintro e w4 ⟨rfl, b4⟩
      have B4 := hid b4
      have hsc := specLineCounts_any A' L c x y w4 (by omega) (H3.out.next b4)
      rw [HC.out] at hsc
      have O4 := hid (O3.out.next b4)
      clear b4 heq
      go_wp2_with fail
      refine hsc.mono ?_
      rintro e w5 ⟨A5, c5, rfl, -, -, o5, b5⟩
      have B5 := hid b5
      have heq := equalInts_same A2 A5 C c2 c5 w5 (by omega) (O4.out.next b5) o5.arr
      clear b5 o5 hsc
      go_wp2_with fail
      refine heq.mono ?_
      rintro e w6 ⟨rfl, b6⟩
      have B6 := hid b6
      clear b6 heq
      go_wp2
      go_ret
      exact ⟨rfl, chain (chain (chain (chain (chain B1.out B2.out) B3.out) B4.out) B5.out) B6.out⟩
    · have h0' : ((C.length : Int) == 0) = false := by rw [beq_eq_false_iff_ne]; omega
      have hok := counts_ok (L := L) (x := x) (y := y) (by rw [HC.out]; exact h0)
      have HOK := hid hok
      clear h0 hok
      go_wp2_with fail
      refine heq.mono ?_
      rintro e w4 ⟨rfl, b4⟩
      have B4 := hid b4
      have H4 := hid (H3.out.next b4)
      clear b4 heq
      go_wp2
      go_loop [7] (fun s7 => ∃ i : Nat, i ≤ L.length ∧ s7 = .int .i64 i ∧ Aside (∀ j, j < i → ∀ p, L[j]? = some p → p.1 ≠ 0)) (fun s7 => L.length - (intOf s7).toNat)
      case atStart => exact ⟨0, Nat.zero_le _, rfl, fun j hj => absurd hj (Nat.not_lt_zero _)⟩
      case round =>
        obtain ⟨i, hi, rfl, N⟩ := hrel
        by_cases hlt : i < L.length
        · obtain ⟨b, off, u, v, rfl, hb, hx, q1, q2⟩ := H4.out.at2 hlt
          have HX := hid hx
          clear hx
          by_cases hu : u = 0
          · subst hu
            go_wp2
            go_ret
            exact ⟨rfl, chain (chain (chain B1.out B2.out) B3.out) B4.out⟩
          · have hu' : (u == 0) = false := by rw [beq_eq_false_iff_ne]; exact hu
            have HU := hid hu
            clear hu
            go_wp2
            go_round
            case measure => simp [intOf]; omega
            case rel =>
              refine ⟨i + 1, by omega, by go_num, (show Aside _ from fun j hj p hp => ?_)⟩
              by_cases e : j = i
              · subst e
                have := HX.out.symm.trans hp
                injection this with this
                rw [← this]; exact HU.out
              · exact N.out j (by omega) p hp
        · have : i = L.length := by omega
          subst this
          have hlc := lineCounts_any A' L c 0 y w4 (by omega) hc1 hc2 H4.out
          have hone : (countsOf L 0 y).length = L.length := by
            have hz := okL_zero HOK.out
            obtain ⟨hv, _, hg⟩ := okL_bd HOK.out
            rw [countsOf, if_pos hz]
            refine cnt_one y hg.1 L.length L (Nat.le_refl _) fun p hp => ?_
            obtain ⟨j, hj⟩ := List.mem_iff_getElem?.1 hp
            have h1 := N.out j (List.getElem?_eq_some_iff.1 hj).1 p hj
            have h2 := (okP_bd ((validL_iff.1 hv).2 p hp)).1
            omega
          generalize countsOf L 0 y = C' at hlc hone
          have HO := hid hone
          clear hone
          go_wp2_with fail
          refine hlc.mono ?_
          rintro e w5 ⟨A5, c5, rfl, -, -, o5, b5⟩
          have B5 := hid b5
          have hee : ((C'.length : Int) == (L.length : Int)) = true := by rw [beq_iff_eq, HO.out]
          clear b5 o5 hlc
          go_wp2
          go_ret
          exact ⟨rfl, chain (chain (chain (chain B1.out B2.out) B3.out) B4.out) B5.out⟩
end Go.Proofs.Ytjkcejijdpmhoaa
