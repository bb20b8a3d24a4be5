/- The reference's next task: spec.sooner, spec.nextAt, spec.NextTask. -/
import Derived.Test.YthppgaglmgnocaaK3
namespace Go.Proofs.Ythppgaglmgnocaa
set_option linter.unusedVariables false
set_option linter.unusedSimpArgs false
open Go.RowKit Go.Lib
attribute [local go_sem ↓] Go.wp_at_zero Go.wp_at_succ

set_option maxHeartbeats 2000000 in
theorem sooner_any (a b : TaskD) (w : World) (ha : okT a = true) (hb : okT b = true) :
    Calls Try.prog 63 #[.agg #[.int .i64 a.Id, .int .i64 a.Rank, .int .i64 a.Age], .agg #[.int .i64 b.Id, .int .i64 b.Rank, .int .i64 b.Age]] w
      fun e w' => e = .returned (.bool (soonT a b)) ∧ Below w.heap.size w w' := by
  obtain ⟨⟨a1, a2⟩, ⟨a3, a4⟩, a5, a6⟩ := okT_iff.1 ha
  obtain ⟨⟨b1, b2⟩, ⟨b3, b4⟩, b5, b6⟩ := okT_iff.1 hb
  have hq := soonT_iff (a := a) (b := b)
  unfold keyT at hq
  generalize soonT a b = q at *
  have K : ∀ o o', Below w.heap.size w ((w.alloc o).alloc o') := fun o o' => below_al (below_al (Below.refl _ _) rfl _) rfl _
  by_cases h1 : a.Rank - 4 * a.Age < b.Rank - 4 * b.Age
  · have hr : q = true := hq.2 (.inl h1)
    subst hr
    clear hq
    go_enter Try.func63, Try.ntmps63
    go_wp2
    go_ret
    exact ⟨rfl, K _ _⟩
  · by_cases h2 : a.Rank - 4 * a.Age = b.Rank - 4 * b.Age
    · have h2' : (a.Rank - 4 * a.Age == b.Rank - 4 * b.Age) = true := by rw [beq_iff_eq]; exact h2
      by_cases h3 : a.Id < b.Id
      · have hr : q = true := hq.2 (.inr ⟨h2, h3⟩)
        subst hr
        clear hq h2
        go_enter Try.func63, Try.ntmps63
        go_wp2
        go_ret
        exact ⟨rfl, K _ _⟩
      · have hr : q = false := by rw [Bool.eq_false_iff]; intro e; have := hq.1 e; omega
        subst hr
        clear hq h2
        go_enter Try.func63, Try.ntmps63
        go_wp2
        go_ret
        exact ⟨rfl, K _ _⟩
    · have h2' : (a.Rank - 4 * a.Age == b.Rank - 4 * b.Age) = false := by rw [beq_eq_false_iff_ne]; exact h2
      have hr : q = false := by rw [Bool.eq_false_iff]; intro e; have := hq.1 e; omega
      subst hr
      clear hq h2
      go_enter Try.func63, Try.ntmps63
      go_wp2
      go_ret
      exact ⟨rfl, K _ _⟩

/-- The place of the next task. -/
def IsNext (L : List TaskD) (k at_ : Nat) : Prop := at_ < k ∧ L[at_]? = some (nextT (L.take k))

set_option maxHeartbeats 4000000 in
theorem nextAt_any (A : Option Addr) (L : List TaskD) (c : Nat) (w : World) (hL : L.length ≤ 1048576) (hl : 0 < L.length) (hok : ∀ t ∈ L, okT t = true) (h : Arr w w.heap.size 3 encTask A L) :
    Calls Try.prog 49 #[.slice A L.length c] w
      fun e w' => ∃ k : Nat, e = .returned (.int .i64 k) ∧ k < L.length ∧ L[k]? = some (nextT L) ∧ Below w.heap.size w w' := by
  have H := hid h
  have HOK := hid hok
  have HN := hid (fun i x => nextT_take (L := L) (i := i) (x := x))
  have HEND : Aside (nextT L = nextT (L.take L.length)) := by
    show _ = _
    rw [List.take_length]
  obtain ⟨b0, off0, x0, rfl, hb0, hx0, p1, p2, p3⟩ := h.atTask hl
  have R0 : Aside (IsNext L 1 0) := by
    refine ⟨by omega, ?_⟩
    cases L with
    | nil => simp at hl
    | cons q L => rfl
  clear h hok hx0 p1 p2 p3
  generalize nextT L = res at *
  go_enter Try.func49, Try.ntmps49
  go_wp2
  go_loopg [3, 4] L.length (fun gg s3 s4 wr => ∃ (i k : Nat), 1 ≤ i ∧ i ≤ L.length ∧ L.length - i ≤ gg ∧ s4 = .int .i64 i ∧ s3 = .int .i64 k ∧ Aside (IsNext L i k) ∧ Aside (Below w.heap.size w wr))
  case atStart => exact ⟨1, 0, by omega, hl, by omega, rfl, rfl, R0, Below.refl _ _⟩
  case round =>
    obtain ⟨i, k, hi1, hi, hgg, rfl, rfl, R, B⟩ := hrel
    obtain ⟨hki, hkm⟩ := R.out
    have HKM := hid hkm
    have hsz := B.out.size
    clear R hkm
    by_cases hlt : i < L.length
    · obtain ⟨x, hx, hbb, c1, c2, c3⟩ := (H.out.below B.out).litTask hlt
      obtain ⟨m, hm, -, d1, d2, d3⟩ := (H.out.below B.out).litTask (show k < L.length by omega)
      have hmm := hm.symm.trans HKM.out
      injection hmm with hmm
      have hc := fun W => sooner_any x m W (HOK.out x (List.mem_of_getElem? hx)) (HOK.out m (List.mem_of_getElem? hm))
      have hnx := HN.out i x (by omega) hx
      rw [← hmm] at hnx
      have HX := hid hx
      have HM := hid hm
      have HC := hid hc
      have HNX := hid hnx
      have i1 : (0 : Int) ≤ (i : Int) := by omega
      have i2 : (i : Int) < (L.length : Int) := by omega
      have i3 : (0 : Int) ≤ (k : Int) := by omega
      have i4 : (k : Int) < (L.length : Int) := by omega
      have hbw : b0 < wr.heap.size := by omega
      clear hx hm hmm hc hnx
      cases hs : soonT x m
      all_goals
        rw [hs] at HC HNX
        clear hs
        go_wp2_with fail
        go_region_held3 (fun w' => w'.cell? ⟨b0, off0 + i * 3, none⟩ = some (.int .i64 x.Id) ∧ w'.cell? ⟨b0, off0 + i * 3 + 1, none⟩ = some (.int .i64 x.Rank) ∧ w'.cell? ⟨b0, off0 + i * 3 + 2, none⟩ = some (.int .i64 x.Age) ∧ w'.cell? ⟨b0, off0 + k * 3, none⟩ = some (.int .i64 m.Id) ∧ w'.cell? ⟨b0, off0 + k * 3 + 1, none⟩ = some (.int .i64 m.Rank) ∧ w'.cell? ⟨b0, off0 + k * 3 + 2, none⟩ = some (.int .i64 m.Age)) (go_keep)
          (((with_reducible refine (HC.out _).mono ?_); rintro e w2 ⟨rfl, hb2⟩; have k1 := (hb2.cell (p := ⟨b0, off0 + i * 3, none⟩) hbw).trans c1; have k2 := (hb2.cell (p := ⟨b0, off0 + i * 3 + 1, none⟩) hbw).trans c2; have k3 := (hb2.cell (p := ⟨b0, off0 + i * 3 + 2, none⟩) hbw).trans c3; have j1 := (hb2.cell (p := ⟨b0, off0 + k * 3, none⟩) hbw).trans d1; have j2 := (hb2.cell (p := ⟨b0, off0 + k * 3 + 1, none⟩) hbw).trans d2; have j3 := (hb2.cell (p := ⟨b0, off0 + k * 3 + 2, none⟩) hbw).trans d3; have HB2 := hid (below_undrew hb2); clear hb2; dsimp only))
        have HBX := hid (B.out.trans (HB2.out.mono hsz))
        go_wp2
      · go_roundg (L.length - (i + 1))
        case measure => omega
        case rel =>
          refine ⟨i + 1, k, by omega, by omega, by omega, by go_num, rfl, ⟨by omega, ?_⟩, HBX.out⟩
          rw [HNX.out]; simpa using HM.out
      · go_roundg (L.length - (i + 1))
        case measure => omega
        case rel =>
          refine ⟨i + 1, i, by omega, by omega, by omega, by go_num, rfl, ⟨by omega, ?_⟩, HBX.out⟩
          rw [HNX.out]; simpa using HX.out
    · have hil : i = L.length := by omega
      subst hil
      have hres : L[k]? = some res := by rw [HEND.out]; exact HKM.out
      have HRES := hid hres
      clear HEND HKM hres
      go_wp2
      go_ret
      exact ⟨k, rfl, hki, HRES.out, B.out⟩
end Go.Proofs.Ythppgaglmgnocaa
