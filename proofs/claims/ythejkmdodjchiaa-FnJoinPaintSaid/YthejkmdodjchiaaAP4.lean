/- FnJoinPaint: the walk. -/
import Derived.Test.YthejkmdodjchiaaPD
import Derived.Test.YthejkmdodjchiaaJ4
import Derived.Test.YthejkmdodjchiaaQ
import Derived.IntWalk
namespace Go.Proofs.Ythejkmdodjchiaa
set_option linter.unusedVariables false
set_option linter.unusedSimpArgs false
open Go.RowKit Go.Lib

set_option maxHeartbeats 2000000 in
theorem inside_any (a b : RectD) (w : World) (ha : validR a = true) (hb : validR b = true) :
    Calls Try.prog 36 #[.agg #[.int .i64 a.X, .int .i64 a.Y, .int .i64 a.W, .int .i64 a.H], .agg #[.int .i64 b.X, .int .i64 b.Y, .int .i64 b.W, .int .i64 b.H]] w
      fun e w' => e = .returned (.bool (insideR a b)) ∧ Below w.heap.size w w' := by
  rw [validR_iff] at ha hb
  obtain ⟨⟨a1, a2⟩, ⟨a3, a4⟩, ⟨a5, a6⟩, a7, a8⟩ := ha
  obtain ⟨⟨b1, b2⟩, ⟨b3, b4⟩, ⟨b5, b6⟩, b7, b8⟩ := hb
  have K : ∀ o1 o2, Below w.heap.size w ((w.alloc o1).alloc o2) := fun o1 o2 => below_al (below_al (Below.refl _ _) rfl _) rfl _
  have hi := insideR_iff (a := a) (b := b)
  generalize insideR a b = r at *
  cases r
  · have hn : ¬ (b.X ≤ a.X ∧ b.Y ≤ a.Y ∧ a.X + a.W ≤ b.X + b.W ∧ a.Y + a.H ≤ b.Y + b.H) := fun h => by have := hi.2 h; cases this
    clear hi
    by_cases h1 : b.X ≤ a.X
    · by_cases h2 : b.Y ≤ a.Y
      · by_cases h3 : a.X + a.W ≤ b.X + b.W
        · have h4 : ¬ a.Y + a.H ≤ b.Y + b.H := fun h => hn ⟨h1, h2, h3, h⟩
          clear hn
          go_enter Try.func36, Try.ntmps36
          go_wp2
          go_ret
          exact ⟨rfl, K _ _⟩
        · clear hn
          go_enter Try.func36, Try.ntmps36
          go_wp2
          go_ret
          exact ⟨rfl, K _ _⟩
      · clear hn
        go_enter Try.func36, Try.ntmps36
        go_wp2
        go_ret
        exact ⟨rfl, K _ _⟩
    · clear hn
      go_enter Try.func36, Try.ntmps36
      go_wp2
      go_ret
      exact ⟨rfl, K _ _⟩
  · obtain ⟨h1, h2, h3, h4⟩ := hi.1 rfl
    clear hi
    go_enter Try.func36, Try.ntmps36
    go_wp2
    go_ret
    exact ⟨rfl, K _ _⟩

/-- What is known of joined rectangles. -/
theorem join_facts {L : List RectD} (h : joinOk L = true) : (∀ r ∈ L, validR r = true) ∧ (∀ q ∈ joinL L, validR q = true) ∧ (∀ r ∈ L, (joinL L).any (fun q => insideR r q) = true) ∧ (joinL L).length ≤ L.length := by
  obtain ⟨⟨_, hv⟩, h2⟩ := joinV_some (joinL_of h)
  obtain ⟨_, f2, f3⟩ := joinTo_facts L [] (joinL L) h2
  refine ⟨hv, joinTo_valid L [] _ h2 (fun q hq => (List.not_mem_nil hq).elim) hv, fun r hr => ?_, by simpa using f3⟩
  obtain ⟨s, hs, hi⟩ := f2 r hr
  exact List.any_eq_true.2 ⟨s, hs, hi⟩
theorem take_any_next {α : Type} {p : α → Bool} {L : List α} {i : Nat} {x : α} (h : L[i]? = some x) : (L.take (i + 1)).any p = ((L.take i).any p || p x) := by
  obtain ⟨hi, rfl⟩ := List.getElem?_eq_some_iff.1 h
  rw [List.take_succ_eq_append_getElem hi, List.any_append]
  simp

set_option maxRecDepth 100000 in
set_option maxHeartbeats 4000000 in
theorem fnJoinPaint_any (A : Option Addr) (cap : Nat) (bs : List Int) (w : World) (h : Code w A cap bs) :
    Calls Try.prog 12 #[.slice A bs.length cap] w (Yes w) := by
  have hcap := h.cap1
  have hcap2 := h.cap2
  by_cases hbig : 1048576 < bs.length
  · clear h
    go_enter Try.func12, Try.ntmps12
    go_wp2
    go_ret
    exact ⟨rfl, Below.refl _ _⟩
  · have hd := drawJoinPaint_any A cap bs w h
    clear h
    go_enter Try.func12, Try.ntmps12
    go_wp2_with fail
    refine hd.mono ?_
    rintro e w1 ⟨A3, c3, L, rfl, hl, hc1, hc2, o3, b1⟩
    have B1 := hid b1
    have H1 := hid o3.arr
    have HI := hid (fun w h => joinPaint_any A3 L c3 w (by omega) h)
    have HS := hid (fun w h => specJoinPaint_any A3 L c3 w (by omega) h)
    have hJl := joinL_len L
    have HF := hid (fun h => join_facts (L := L) h)
    generalize joinL L = J at *
    clear b1 o3 hd
    go_wp2_with fail
    refine (HI.out _ H1.out).mono ?_
    rintro e w2 ⟨A2, c2, rfl, -, -, o2, b2⟩
    have B2 := hid (chain B1.out b2)
    have H2 := hid (H1.out.next b2)
    have O2 := hid o2.arr
    clear b2 o2
    go_wp2_with fail
    refine (HS.out _ H2.out).mono ?_
    rintro e w3 ⟨A5, c5, rfl, -, -, o5, b3⟩
    have B3 := hid (chain B2.out b3)
    have H3 := hid (H2.out.next b3)
    have O3 := hid (O2.out.next b3)
    have O5 := hid o5.arr
    have HE := hid (fun w h h' => equalRects_same A2 A5 J c2 c5 w (by omega) h h')
    clear b3 o5
    go_wp2_with fail
    refine (HE.out _ O3.out O5.out).mono ?_
    rintro e w4 ⟨rfl, b4⟩
    have B4 := hid (chain B3.out b4)
    have H4 := hid (H3.out.next b4)
    have O4 := hid (O3.out.next b4)
    have O54 := hid (O5.out.next b4)
    clear b4
    cases hok : joinOk L
    · clear hok
      go_wp2_with fail
      refine (HE.out _ O4.out O54.out).mono ?_
      rintro e w5 ⟨rfl, b5⟩
      have B5 := hid (chain B4.out b5)
      clear b5
      go_wp2
      go_ret
      exact ⟨rfl, B5.out⟩
    · obtain ⟨hv, hj, hin, hle⟩ := HF.out hok
      have HV := hid hv
      have HJ := hid hj
      have HIN := hid hin
      clear hok HF hv hj hin
      go_wp2
      go_loopg [8] L.length (fun gg s8 wr => ∃ i : Nat, i ≤ L.length ∧ L.length - i ≤ gg ∧ s8 = .int .i64 i ∧ Aside (Below w4.heap.size w4 wr))
      case atStart => exact ⟨0, Nat.zero_le _, by omega, rfl, Below.refl _ _⟩
      case round =>
        obtain ⟨i, hi, hgg, rfl, R⟩ := hrel
        obtain ⟨wo, hwo⟩ : ∃ wo : World, wo = wr := ⟨_, rfl⟩
        subst hwo
        by_cases hlt : i < L.length
        · obtain ⟨x, hx⟩ : ∃ x, L[i]? = some x := ⟨_, List.getElem?_eq_getElem hlt⟩
          have HX := hid hx
          have HXV := hid (HV.out x (List.mem_of_getElem? hx))
          have HXI := hid (HIN.out x (List.mem_of_getElem? hx))
          have i1 : (0 : Int) ≤ (i : Int) := by omega
          have i2 : (i : Int) < (L.length : Int) := by omega
          clear hx
          go_wp2
          go_loopg [9, 10] J.length (fun gg s9 s10 wr => ∃ (k : Nat) (b : Bool), k ≤ J.length ∧ J.length - k ≤ gg ∧ s10 = .int .i64 k ∧ s9 = .bool b ∧ Aside (b = (J.take k).any (fun q => insideR x q)) ∧ Aside (Below w4.heap.size w4 wr))
          case atStart => exact ⟨0, false, Nat.zero_le _, by omega, rfl, rfl, rfl, R.out⟩
          case round =>
            obtain ⟨k, b, hk, hg2, rfl, rfl, SB, R2⟩ := hrel
            by_cases hlt2 : k < J.length
            · obtain ⟨p', off', y, rfl, hp', hy, e1, e2, e3, e4⟩ := (O4.out.below R2.out).atRect hlt2
              have hnext := take_any_next (p := fun q => insideR x q) hy
              have HNX := hid hnext
              have HYV := hid (HJ.out y (List.mem_of_getElem? hy))
              have k1 : (0 : Int) ≤ (k : Int) := by omega
              have k2 : (k : Int) < (J.length : Int) := by omega
              have hz := R2.out.size
              have hpw' : p' < wr.heap.size := by omega
              clear hy hnext
              cases b
              · obtain ⟨p, off, x', rfl, hp, hx', d1, d2, d3, d4⟩ := (H4.out.below R2.out).atRect hlt
                have ee := hx'.symm.trans HX.out
                injection ee with ee
                subst ee
                have hpw : p < wr.heap.size := by omega
                have HC := hid (fun W => inside_any x' y W HXV.out HYV.out)
                clear hx'
                go_wp2_with fail
                go_region_held3 (fun w' => w'.cell? ⟨p, off + i * 4, none⟩ = some (.int .i64 x'.X) ∧ w'.cell? ⟨p, off + i * 4 + 1, none⟩ = some (.int .i64 x'.Y) ∧ w'.cell? ⟨p, off + i * 4 + 2, none⟩ = some (.int .i64 x'.W) ∧ w'.cell? ⟨p, off + i * 4 + 3, none⟩ = some (.int .i64 x'.H) ∧ w'.cell? ⟨p', off' + k * 4, none⟩ = some (.int .i64 y.X) ∧ w'.cell? ⟨p', off' + k * 4 + 1, none⟩ = some (.int .i64 y.Y) ∧ w'.cell? ⟨p', off' + k * 4 + 2, none⟩ = some (.int .i64 y.W) ∧ w'.cell? ⟨p', off' + k * 4 + 3, none⟩ = some (.int .i64 y.H)) (go_keep)
                  (((with_reducible refine (HC.out _).mono ?_); rintro e w6 ⟨rfl, hb6⟩; have q0 := (hb6.cell (p := ⟨p, off + i * 4, none⟩) hpw).trans d1; have q1 := (hb6.cell (p := ⟨p, off + i * 4 + 1, none⟩) hpw).trans d2; have q2 := (hb6.cell (p := ⟨p, off + i * 4 + 2, none⟩) hpw).trans d3; have q3 := (hb6.cell (p := ⟨p, off + i * 4 + 3, none⟩) hpw).trans d4; have p0 := (hb6.cell (p := ⟨p', off' + k * 4, none⟩) hpw').trans e1; have p1 := (hb6.cell (p := ⟨p', off' + k * 4 + 1, none⟩) hpw').trans e2; have p2 := (hb6.cell (p := ⟨p', off' + k * 4 + 2, none⟩) hpw').trans e3; have p3 := (hb6.cell (p := ⟨p', off' + k * 4 + 3, none⟩) hpw').trans e4; have HB6 := hid (show Below wr.heap.size wr w6 from below_undrew hb6); clear hb6; dsimp only))
                have SB1 : Aside (insideR x' y = (J.take (k + 1)).any (fun q => insideR x' q)) := by
                  show _ = _
                  rw [HNX.out, ← SB.out, Bool.false_or]
                go_wp2
                go_roundg (J.length - (k + 1))
                case measure => omega
                case rel => exact ⟨k + 1, _, by omega, by omega, by go_num, rfl, SB1.out, R2.out.trans (HB6.out.mono hz)⟩
              · have SB1 : Aside (true = (J.take (k + 1)).any (fun q => insideR x q)) := by
                  show _ = _
                  rw [HNX.out, ← SB.out, Bool.true_or]
                go_wp2_with fail
                go_quiet (fail)
                go_wp2
                go_roundg (J.length - (k + 1))
                case measure => omega
                case rel => exact ⟨k + 1, true, by omega, by omega, by go_num, rfl, SB1.out, Below_drewN R2.out nq⟩
            · have hke : k = J.length := by omega
              have hb : b = true := by rw [SB.out, hke, List.take_length]; exact HXI.out
              subst hb
              go_wp2
              go_roundg (L.length - (i + 1))
              case measure => omega
              case rel => exact ⟨i + 1, by omega, by omega, by go_num, R2.out⟩
        · have hle2 : decide ((J.length : Int) ≤ (L.length : Int)) = true := by simp; omega
          have hle3 : decide (J.length ≤ L.length) = true := by simp; omega
          go_wp2
          go_ret
          exact ⟨rfl, chain B4.out R.out⟩
end Go.Proofs.Ythejkmdodjchiaa
