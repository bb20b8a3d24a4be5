/- FnNextTask: the walk. -/
import Derived.Test.YthppgaglmgnocaaKB
import Derived.IntWalk
namespace Go.Proofs.Ythppgaglmgnocaa
open Go.RowKit Go.Lib

theorem nextV_some {L : List TaskD} (h : 0 ≤ nextV L) : validT L = true ∧ 0 < L.length ∧ nextV L = (nextT L).Id := by
  unfold nextV at h
  cases e : validT L
  · rw [e] at h; simp at h
  · rw [e] at h
    cases L with
    | nil => simp at h
    | cons x L => exact ⟨rfl, by simp, nextV_of e (by simp)⟩
theorem nextT_uniq {L : List TaskD} (hv : validT L = true) (hl : 0 < L.length) {i : Nat} {x : TaskD} (hx : L[i]? = some x) (he : x.Id = (nextT L).Id) : x = nextT L := by
  obtain ⟨j, hj⟩ := List.mem_iff_getElem?.1 (nextT_mem hl)
  have := asc_uniq (validT_iff.1 hv).2.2 hx hj he
  subst this
  rw [hx] at hj
  injection hj

/-- The first loop's relation. -/
def NRel (L : List TaskD) (i : Nat) (best : Int) : Prop := ∀ j, j < i → L[j]? = some (nextT L) → best = keyT (nextT L)

set_option maxRecDepth 100000 in
set_option maxHeartbeats 1000000 in
theorem fnNextTask_any (A : Option Addr) (cap : Nat) (bs : List Int) (w : World) (h : Code w A cap bs) :
    Calls Try.prog 5 #[.slice A bs.length cap] w (Yes w) := by
  have hcap := h.cap1
  have hcap2 := h.cap2
  by_cases hbig : 1048576 < bs.length
  · clear h
    go_enter Try.func5, Try.ntmps5
    go_wp2
    go_ret
    exact ⟨rfl, Below.refl _ _⟩
  · have hd := drawNextTask_any A cap bs w h
    clear h
    go_enter Try.func5, Try.ntmps5
    go_wp2_with fail
    refine hd.mono ?_
    rintro e w1 ⟨A3, c3, L, rfl, hL, hc1, hc2, o3, b1⟩
    have B1 := hid b1
    have H1 := hid (row_arr o3)
    have HI := hid (fun w h => nextTask_any A3 L c3 w (by omega) h)
    have HS := hid (fun w h => specNextTask_any A3 L c3 w (by omega) h)
    have HF := hid (fun h => nextV_some (L := L) h)
    generalize hnv : nextV L = nv at *
    have HNV := hid hnv
    have hne : (nv != nv) = false := by simp
    have heq : (nv == nv) = true := by simp
    clear b1 o3 hd hnv
    go_wp2_with fail
    refine (HI.out _ H1.out).mono ?_
    rintro e w2 ⟨rfl, b2⟩
    have B2 := hid (chain B1.out b2)
    have H2 := hid (H1.out.next b2)
    clear b2
    go_wp2_with fail
    refine (HS.out _ H2.out).mono ?_
    rintro e w3 ⟨rfl, b3⟩
    have B3 := hid (chain B2.out b3)
    have H3 := hid (H2.out.next b3)
    clear b3
    by_cases hneg : nv < 0
    · go_wp2_with fail
      refine (HS.out _ H3.out).mono ?_
      rintro e w4 ⟨rfl, b4⟩
      have B4 := hid (chain B3.out b4)
      clear b4
      go_wp2
      go_ret
      exact ⟨rfl, B4.out⟩
    · obtain ⟨hv, hl, hnx⟩ := HF.out (by omega)
      have HV := hid hv
      have HNX := hid hnx
      have HOK := hid (validT_iff.1 hv).2.1
      clear hv hnx HF
      go_wp2
      go_loopg [5, 6] L.length (fun gg s4 s5 wr => ∃ (i : Nat) (best : Int), i ≤ L.length ∧ L.length - i ≤ gg ∧ s5 = .int .i64 i ∧ s4 = .int .i64 best ∧ (-1000 ≤ best ∧ best ≤ 1000) ∧ Aside (NRel L i best) ∧ Aside (Below w3.heap.size w3 wr))
      case atStart => exact ⟨0, 0, Nat.zero_le _, by omega, rfl, rfl, by omega, (fun j hj => absurd hj (Nat.not_lt_zero _)), Below.refl _ _⟩
      case round =>
        obtain ⟨i, best, hi, hgg, rfl, rfl, hbd, N, R⟩ := hrel
        by_cases hlt : i < L.length
        · obtain ⟨p, off, x, rfl, hp, hx, d1, d2, d3⟩ := (H3.out.below R.out).atTask hlt
          have i1 : (0 : Int) ≤ (i : Int) := by omega
          have i2 : (i : Int) < (L.length : Int) := by omega
          obtain ⟨-, ⟨x3, x4⟩, x5, x6⟩ := okT_iff.1 (HOK.out x (List.mem_of_getElem? hx))
          by_cases hxg : x.Id = nv
          · have hb : (x.Id == nv) = true := by rw [beq_iff_eq]; exact hxg
            have hxe := nextT_uniq HV.out hl hx (by rw [hxg, HNX.out])
            have F : Aside (NRel L (i + 1) (x.Rank - 4 * x.Age)) := fun j _ _ => by rw [← hxe]; rfl
            clear hx hxg hxe
            go_wp2_with fail
            go_quiet (fail)
            go_wp2
            go_roundg (L.length - (i + 1))
            case measure => omega
            case rel => exact ⟨i + 1, _, by omega, by omega, by go_num, rfl, by omega, F, Below_drewN R.out _⟩
          · have hb : (x.Id == nv) = false := by rw [beq_eq_false_iff_ne]; exact hxg
            have F : Aside (NRel L (i + 1) best) := fun j hj hy => by
              by_cases e : j = i
              · subst e
                rw [hx] at hy
                injection hy with hy
                exact absurd (by rw [hy, HNX.out]) hxg
              · exact N.out j (by omega) hy
            clear hx hxg
            go_wp2
            go_roundg (L.length - (i + 1))
            case measure => omega
            case rel => exact ⟨i + 1, best, by omega, by omega, by go_num, rfl, hbd, F, R.out⟩
        · have hil : i = L.length := by omega
          have hbest : best = keyT (nextT L) := by
            obtain ⟨j, hj⟩ := List.mem_iff_getElem?.1 (nextT_mem hl)
            exact N.out j (by rw [hil]; exact (List.getElem?_eq_some_iff.1 hj).1) hj
          have HB := hid hbest
          have B6 := hid (chain B3.out R.out)
          have H6 := hid (H3.out.next R.out)
          clear hbest hil N R
          obtain ⟨wo, hwo⟩ : ∃ wo : World, wo = wr := ⟨_, rfl⟩
          subst hwo
          go_wp2
          go_loopg [7] L.length (fun gg s6 wr => ∃ (i : Nat), i ≤ L.length ∧ L.length - i ≤ gg ∧ s6 = .int .i64 i ∧ Aside (Below wo.heap.size wo wr))
          case atStart => exact ⟨0, Nat.zero_le _, by omega, rfl, Below.refl _ _⟩
          case round =>
            obtain ⟨k, hk, hgg, rfl, R⟩ := hrel
            by_cases hlt : k < L.length
            · obtain ⟨p, off, x, rfl, hp, hx, d1, d2, d3⟩ := (H6.out.below R.out).atTask hlt
              have i1 : (0 : Int) ≤ (k : Int) := by omega
              have i2 : (k : Int) < (L.length : Int) := by omega
              obtain ⟨-, ⟨x3, x4⟩, x5, x6⟩ := okT_iff.1 (HOK.out x (List.mem_of_getElem? hx))
              have hno := soonT_no.1 (nextT_least (List.mem_of_getElem? hx))
              rw [← HB.out, ← HNX.out] at hno
              have hk1 : keyT x = x.Rank - 4 * x.Age := rfl
              rw [hk1] at hno
              have t1 : decide (x.Rank - 4 * x.Age < best) = false := by simp; omega
              have t1' : ¬ (x.Rank - 4 * x.Age < best) := by omega
              clear hx hk1
              by_cases hke : x.Rank - 4 * x.Age = best
              · have t2 : (x.Rank - 4 * x.Age == best) = true := by rw [beq_iff_eq]; exact hke
                have t3 : decide (x.Id < nv) = false := by simp; omega
                have t3' : ¬ (x.Id < nv) := by omega
                clear hke hno
                go_wp2_with fail
                go_quiet (fail)
                go_wp2
                go_roundg (L.length - (k + 1))
                case measure => omega
                case rel => exact ⟨k + 1, by omega, by omega, by go_num, Below_drewN R.out _⟩
              · have t2 : (x.Rank - 4 * x.Age == best) = false := by rw [beq_eq_false_iff_ne]; exact hke
                clear hke hno
                go_wp2_with fail
                go_quiet (fail)
                go_wp2
                go_roundg (L.length - (k + 1))
                case measure => omega
                case rel => exact ⟨k + 1, by omega, by omega, by go_num, Below_drewN R.out _⟩
            · go_wp2
              go_ret
              exact ⟨rfl, chain B6.out R.out⟩
end Go.Proofs.Ythppgaglmgnocaa
