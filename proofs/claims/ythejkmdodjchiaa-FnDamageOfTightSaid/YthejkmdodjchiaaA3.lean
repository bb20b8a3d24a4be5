/- FnDamageOfTight: the walk. -/
import Derived.Test.YthejkmdodjchiaaA2
namespace Go.Proofs.Ythejkmdodjchiaa
open Go.RowKit Go.Lib

def hasL (a b : List RectD) (r : RectD) (i : Int) : Bool := (a.getD i.toNat zeroR).X == r.X || (b.getD i.toNat zeroR).X == r.X
def hasRt (a b : List RectD) (r : RectD) (i : Int) : Bool := (a.getD i.toNat zeroR).X + (a.getD i.toNat zeroR).W == r.X + r.W || (b.getD i.toNat zeroR).X + (b.getD i.toNat zeroR).W == r.X + r.W
theorem or3 (p q : Bool) : p = true ∨ (p = false ∧ q = true) ∨ (p = false ∧ q = false) := by
  cases p <;> cases q <;> simp
theorem take_nextR {α : Type} {L : List α} {i : Nat} {x : α} (h : L[i]? = some x) : L.take (i + 1) = L.take i ++ [x] := by
  obtain ⟨hi, rfl⟩ := List.getElem?_eq_some_iff.1 h
  exact List.take_succ_eq_append_getElem hi

set_option maxRecDepth 100000 in
set_option maxHeartbeats 4000000 in
theorem fnDamageOfTight_any (A : Option Addr) (cap : Nat) (bs : List Int) (w : World) (h : Code w A cap bs) :
    Calls Try.prog 9 #[.slice A bs.length cap] w (Yes w) := by
  have hcap := h.cap1
  have hcap2 := h.cap2
  by_cases hbig : 1048576 < bs.length
  · clear h
    go_enter Try.func9, Try.ntmps9
    go_wp2
    go_ret
    exact ⟨rfl, Below.refl _ _⟩
  · have hd := drawDamageOf_any A cap bs w h
    clear h
    go_enter Try.func9, Try.ntmps9
    go_wp2_with fail
    refine hd.mono ?_
    rintro e w1 ⟨A3, c3, a, A4, c4, b, rfl, hla, hlb, o3, o4, b1⟩
    have B1 := hid b1
    have H3 := hid o3.arr
    have H4 := hid o4.arr
    have HI := hid (fun w h h' => damageOf_any A3 A4 a b c3 c4 w (by omega) (by omega) h h')
    have HS := hid (fun w h h' => specDamageOf_any A3 A4 a b c3 c4 w (by omega) (by omega) h h')
    have HR := hid (fun w h => damageOf_any A3 A3 a a c3 c3 w (by omega) (by omega) h h)
    have hself : dmgOk a a = false := by unfold dmgOk; rw [chgOf_self]; rfl
    rw [hself] at HR
    clear hself
    have HC := hid (fun w h h' => changedRects_any A3 A4 a b c3 c4 w (by omega) (by omega) h h')
    have hfact : dmgOk a b = true → 0 < (chgOf a b).length ∧ (chgOf a b).length ≤ 16 ∧ validR (dmgOf a b) = true ∧ (∀ j ∈ chgOf a b, ∃ i : Nat, j = i ∧ i < a.length ∧ i < b.length) ∧ (∀ x ∈ a, validR x = true) ∧ (∀ x ∈ b, validR x = true) ∧
        (chgOf a b).any (hasL a b (dmgOf a b)) = true ∧ (chgOf a b).any (hasRt a b (dmgOf a b)) = true := by
      intro hk
      have hl : 0 < (chgOf a b).length := by
        unfold dmgOk at hk
        rw [Bool.and_eq_true, decide_eq_true_eq] at hk
        exact hk.1
      obtain ⟨e0, e1, e2, e3⟩ := dmg_some hl
      obtain ⟨⟨-, va⟩, ⟨-, vb⟩, hlen⟩ := chgOk_iff.1 e0
      rw [hk] at e2
      have e4 : dmgOf a b = dmgAll a b (chg a b) := by rw [e3]; unfold madeR; rw [← e2]; rfl
      refine ⟨hl, chgOf_len a b, by rw [e4]; exact e2.symm, fun j hj => ?_, va, vb, ?_, ?_⟩
      · rw [e1] at hj
        obtain ⟨i, h1, h2, _⟩ := mem_chg.1 hj
        exact ⟨i, h1, h2, by omega⟩
      · rw [List.any_eq_true, e4, e1]
        rw [e1] at hl
        obtain ⟨i, hi, h⟩ := dmg_left (a := a) (b := b) hl
        exact ⟨i, hi, by unfold hasL; rw [Bool.or_eq_true, beq_iff_eq, beq_iff_eq]; exact h⟩
      · rw [List.any_eq_true, e4, e1]
        rw [e1] at hl
        obtain ⟨i, hi, h⟩ := dmg_right (a := a) (b := b) hl
        exact ⟨i, hi, by unfold hasRt; rw [Bool.or_eq_true, beq_iff_eq, beq_iff_eq]; exact h⟩
    have HFACT := hid hfact
    generalize chgOf a b = L at *
    generalize dmgOk a b = ok at *
    generalize dmgOf a b = r at *
    generalize dmgOf a a = r2 at *
    have q1 : (r.X == r.X) = true := by simp
    have q2 : (r.Y == r.Y) = true := by simp
    have q3 : (r.W == r.W) = true := by simp
    have q4 : (r.H == r.H) = true := by simp
    clear b1 o3 o4 hd hfact
    go_wp2_with fail
    refine (HI.out _ H3.out H4.out).mono ?_
    rintro e w2 ⟨rfl, b2⟩
    have hs2 := b2.size
    have B2 := hid (chain B1.out b2)
    have H32 := hid (H3.out.next b2)
    have H42 := hid (H4.out.next b2)
    have BB2 : ∀ o, Below w2.heap.size w2 (w2.alloc o) := fun o => (Below.refl _ _).alloc (Nat.le_refl _) _
    have HB2 := hid BB2
    clear b2 BB2
    go_wp2_with fail
    refine (HS.out _ ((H32.out.below (HB2.out _)).more (by simp)) ((H42.out.below (HB2.out _)).more (by simp))).mono ?_
    rintro e w3 ⟨rfl, b3⟩
    have hs3 : w2.heap.size < w3.heap.size := by have := b3.size; simp at this; omega
    have K3 := hid (blk_below (heap_alloc_new w2 _) b3 (by simp))
    have C3 := hid ((HB2.out _).trans (b3.mono (by simp)))
    have B3 := hid (chain B2.out C3.out)
    have H33 := hid (H32.out.next C3.out)
    have H43 := hid (H42.out.next C3.out)
    obtain ⟨⟨k1, k2, k3, k4⟩, -⟩ := cell4 K3.out
    clear b3
    cases hok : ok
    · clear HFACT hok
      go_wp2
      go_ret
      exact ⟨rfl, chain B3.out ((Below.refl _ _).alloc (Nat.le_refl _) _)⟩
    · obtain ⟨hl0, hl16, hvr, hidx, hva, hvb, hina, hinb⟩ := HFACT.out hok
      have HIX := hid hidx
      have HVA := hid hva
      have HVB := hid hvb
      have HINA := hid hina
      have HINB := hid hinb
      have HVR := hid hvr
      clear HFACT hok hidx hva hvb hina hinb hvr
      have BB3 : ∀ o, Below w3.heap.size w3 (w3.alloc o) := fun o => (Below.refl _ _).alloc (Nat.le_refl _) _
      have HB3 := hid BB3
      clear BB3
      go_wp2_with fail
      refine (HC.out _ ((H33.out.below (HB3.out _)).more (by simp)) ((H43.out.below (HB3.out _)).more (by simp))).mono ?_
      rintro e w4 ⟨A5, c5, rfl, -, -, o5, b4⟩
      have hs4 : w3.heap.size < w4.heap.size := by have := b4.size; simp at this; omega
      have C4 := hid ((HB3.out _).trans (b4.mono (by simp)))
      have B4 := hid (chain B3.out C4.out)
      have K4 := hid (blk_below K3.out C4.out (by omega))
      have H34 := hid (H33.out.next C4.out)
      have H44 := hid (H43.out.next C4.out)
      have L4 := hid o5.arr
      clear b4 o5
      go_wp2
      go_loopg [10, 11, 12] L.length (fun gg s10 s11 s12 wr => ∃ (i : Nat) (lf rt : Bool), i ≤ L.length ∧ L.length - i ≤ gg ∧ s12 = .int .i64 i ∧ s10 = .bool lf ∧ s11 = .bool rt ∧ Aside (lf = (L.take i).any (hasL a b r)) ∧ Aside (rt = (L.take i).any (hasRt a b r)) ∧ Aside (Below w4.heap.size w4 wr))
      case atStart => exact ⟨0, false, false, Nat.zero_le _, by omega, rfl, rfl, rfl, rfl, rfl, Below.refl _ _⟩
      case round =>
        obtain ⟨i, lf, rt, hi, hgg, rfl, rfl, rfl, LF, RT, R⟩ := hrel
        have hsr := R.out.size
        have K5 := hid (blk_below K4.out R.out (by omega))
        obtain ⟨⟨m1, m2, m3, m4⟩, -⟩ := cell4 K5.out
        by_cases hlt : i < L.length
        · obtain ⟨b0, off0, y, rfl, hb0, hy, cc⟩ := (L4.out.below R.out).at1 hlt
          have hym := List.mem_of_getElem? hy
          obtain ⟨j, rfl, hja, hjb⟩ := HIX.out y hym
          obtain ⟨p, off, x, rfl, hp, hx, c1, c2, c3', c4'⟩ := (H34.out.below R.out).atRect hja
          obtain ⟨p', off', z, rfl, hp', hz, d1, d2, d3, d4⟩ := (H44.out.below R.out).atRect hjb
          obtain ⟨⟨x1, x2⟩, -, ⟨x3, x4⟩, -⟩ := validR_iff.1 (HVA.out x (List.mem_of_getElem? hx))
          obtain ⟨⟨z1, z2⟩, -, ⟨z3, z4⟩, -⟩ := validR_iff.1 (HVB.out z (List.mem_of_getElem? hz))
          obtain ⟨⟨v1, v2⟩, -, ⟨v3, v4⟩, -⟩ := validR_iff.1 HVR.out
          have LF1 : Aside ((lf || (x.X == r.X || z.X == r.X)) = (L.take (i + 1)).any (hasL a b r)) := by
            show _ = _
            rw [take_nextR hy, List.any_append, ← LF.out]
            simp [hasL, hx, hz]
          have RT1 : Aside ((rt || (x.X + x.W == r.X + r.W || z.X + z.W == r.X + r.W)) = (L.take (i + 1)).any (hasRt a b r)) := by
            show _ = _
            rw [take_nextR hy, List.any_append, ← RT.out]
            simp [hasRt, hx, hz]
          have i1 : (0 : Int) ≤ (i : Int) := by omega
          have i2 : (i : Int) < (L.length : Int) := by omega
          have i3 : (0 : Int) ≤ (j : Int) := by omega
          have i4 : (j : Int) < (a.length : Int) := by omega
          have i5 : (j : Int) < (b.length : Int) := by omega
          have hww : w2.heap.size < wr.heap.size := by omega
          have hpw : p < wr.heap.size := by omega
          have hpw' : p' < wr.heap.size := by omega
          have hbw : b0 < wr.heap.size := by omega
          clear hx hz hy hym LF RT
          rcases or3 lf (x.X == r.X) with h1 | ⟨h1, h2⟩ | ⟨h1, h2⟩ <;> rcases or3 rt (x.X + x.W == r.X + r.W) with g1 | ⟨g1, g2⟩ | ⟨g1, g2⟩
          all_goals
            subst h1 g1
            go_wp2
            go_roundg (L.length - (i + 1))
            case measure => omega
            case rel =>
              refine ⟨i + 1, _, _, by omega, by omega, by go_num, rfl, rfl, ?_, ?_, (R.out.alloc (by omega) _).alloc (by simp; omega) _⟩
              · have h := LF1.out
                simp only [Bool.true_or, Bool.false_or, *] at h
                exact h
              · have h := RT1.out
                simp only [Bool.true_or, Bool.false_or, *] at h
                exact h
        · have hil : i = L.length := by omega
          have hlf : lf = true := by rw [LF.out, hil, List.take_length]; exact HINA.out
          have hrt : rt = true := by rw [RT.out, hil, List.take_length]; exact HINB.out
          subst hlf hrt
          have B5 := hid (chain B4.out R.out)
          have H35 := hid (H34.out.next R.out)
          clear R LF RT
          go_wp2_with fail
          refine (HR.out _ H35.out).mono ?_
          rintro e w6 ⟨rfl, b6⟩
          have B6 := hid (chain B5.out b6)
          clear b6
          go_wp2
          go_ret
          exact ⟨rfl, chain B6.out ((Below.refl _ _).alloc (Nat.le_refl _) _)⟩
end Go.Proofs.Ythejkmdodjchiaa
