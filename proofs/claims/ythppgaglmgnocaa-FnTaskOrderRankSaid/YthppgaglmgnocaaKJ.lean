/- FnTaskOrderRank: the walk. -/
import Derived.Test.YthppgaglmgnocaaKB
import Derived.IntWalk
namespace Go.Proofs.Ythppgaglmgnocaa
open Go.RowKit Go.Lib

/-- The places of the first i. -/
def PlRel (w4 : World) (O : List Int) (i : Nat) (P : List Int) (wr : World) : Prop :=
  P.length = 100 ∧ (∀ j, j < i → ∀ x, O[j]? = some x → P[x.toNat]? = some (j : Int)) ∧ OwnA wr w4.heap.size 1 encI (some ⟨w4.heap.size, 0, none⟩) P ∧ Below w4.heap.size w4 wr

set_option maxRecDepth 100000 in
set_option maxHeartbeats 2000000 in
theorem fnTaskOrderRank_any (A : Option Addr) (cap : Nat) (bs : List Int) (w : World) (h : Code w A cap bs) :
    Calls Try.prog 9 #[.slice A bs.length cap] w (Yes w) := by
  have hcap := h.cap1
  have hcap2 := h.cap2
  by_cases hbig : 1048576 < bs.length
  · clear h
    go_enter Try.func9, Try.ntmps9
    go_wp2
    go_ret
    exact ⟨rfl, Below.refl _ _⟩
  · have hd := drawTaskOrder_any A cap bs w h
    clear h
    go_enter Try.func9, Try.ntmps9
    go_wp2_with fail
    refine hd.mono ?_
    rintro e w1 ⟨A3, c3, L, rfl, hL, hc1, hc2, o3, b1⟩
    have B1 := hid b1
    have H1 := hid (row_arr o3)
    have HI := hid (fun w h => taskOrder_any A3 L c3 w (by omega) h)
    have HS := hid (fun w h => specTaskOrder_any A3 L c3 w (by omega) h)
    have hlen := orderV_len L
    have hfact : (orderV L).length ≠ 0 → (orderV L).Nodup ∧ (∀ x ∈ orderV L, 0 ≤ x ∧ x ≤ 99) ∧ (∀ t ∈ L, (0 ≤ t.Id ∧ t.Id ≤ 99) ∧ ∃ j, (orderV L)[j]? = some t.Id) ∧
        (∀ a ∈ L, ∀ b ∈ L, a.Age = b.Age → a.Rank < b.Rank → ∀ (i j : Nat), (orderV L)[i]? = some a.Id → (orderV L)[j]? = some b.Id → i ≤ j) := fun h0 => by
      obtain ⟨h1, h2, h3, h4⟩ := orderV_some h0
      rw [h3]
      have hok := (validT_iff.1 h1).2.1
      refine ⟨orderN_nodup _ _ rfl h1, fun x hx => ?_, fun t ht => ⟨(okT_iff.1 (hok t ht)).1, ?_⟩, orderN_rank _ _ rfl h1⟩
      · obtain ⟨t, ht, e⟩ := orderN_sub _ _ rfl h1 x hx
        rw [e]; exact (okT_iff.1 (hok t ht)).1
      · exact List.mem_iff_getElem?.1 (orderN_ids _ _ rfl h1 t ht)
    have HF := hid hfact
    generalize orderV L = O at *
    clear b1 o3 hd hfact
    go_wp2_with fail
    refine (HI.out _ H1.out).mono ?_
    rintro e w2 ⟨A2, c2, rfl, -, -, o2, b2⟩
    have B2 := hid (chain B1.out b2)
    have H2 := hid (H1.out.next b2)
    have O2 := hid o2.arr
    clear b2 o2
    go_wp2_with fail
    refine (HS.out _ H2.out).mono ?_
    rintro e w3 ⟨A5, c5, rfl, -, -, o5, b3⟩
    have B3 := hid (chain B2.out b3)
    have H3 := hid (H2.out.next b3)
    have O3 := hid (O2.out.next b3)
    have he := equalInts_same A2 A5 O c2 c5 w3 (by omega) O3.out o5.arr
    have HE := hid he
    clear b3 o5 he
    go_wp2_with fail
    refine HE.out.mono ?_
    rintro e w4 ⟨rfl, b4⟩
    have B4 := hid (chain B3.out b4)
    have H4 := hid (H3.out.next b4)
    have O4 := hid (O3.out.next b4)
    clear b4
    by_cases h0 : O.length = 0
    · have h0' : ((O.length : Int) == 0) = true := by rw [beq_iff_eq]; omega
      have H0 := hid h0
      clear h0
      go_wp2_with fail
      refine (HS.out _ H4.out).mono ?_
      rintro e w5 ⟨A6, c6, rfl, -, -, o6, b5⟩
      have B5 := hid (chain B4.out b5)
      have he := equalInts_same A2 A6 O c2 c6 w5 (by omega) (O4.out.next b5) o6.arr
      have HE2 := hid he
      clear o6 b5 he
      go_wp2_with fail
      refine HE2.out.mono ?_
      rintro e w6 ⟨rfl, b6⟩
      have B6 := hid (chain B5.out b6)
      clear b6
      go_wp2
      go_ret
      exact ⟨rfl, B6.out⟩
    · have h0' : ((O.length : Int) == 0) = false := by rw [beq_eq_false_iff_ne]; omega
      obtain ⟨hnd, hbd, hids, hrank⟩ := HF.out h0
      have HND := hid hnd
      have HBD := hid hbd
      have HIDS := hid hids
      have HRK := hid hrank
      clear h0 hnd hbd hids hrank HF
      go_wp2_with (at_make; refine wpList_makeE _ eltIntK (.int .i64 0) (by kernel_rfl) encI (fun _ => rfl) 0 rfl rfl (.const (.int .i64 100)) (.const (.int .i64 100)) rfl 100 rfl rfl (by omega) ?_; intro w5 own5 gr5 sz5)
      have R0 : Aside (PlRel w4 O 0 (List.replicate 100 0) w5) := ⟨by simp, fun j hj => absurd hj (Nat.not_lt_zero _), own5, (Below.refl _ _).grown gr5 (Nat.le_refl _) (by simp)⟩
      clear own5 gr5 sz5
      go_loopg [6] O.length (fun gg s6 wr => ∃ (i : Nat), i ≤ O.length ∧ O.length - i ≤ gg ∧ s6 = .int .i64 i ∧ Aside (∃ P, PlRel w4 O i P wr))
      case atStart => exact ⟨0, Nat.zero_le _, by omega, rfl, _, R0⟩
      case round =>
        obtain ⟨i, hi, hgg, rfl, R⟩ := hrel
        clear R0
        obtain ⟨P, hPl, hP, own, hbl⟩ := R.out
        have HPl := hid hPl
        have HP := hid hP
        have OWN := hid own
        have HBL := hid hbl
        have hsz := hbl.size
        clear R hP own hbl
        by_cases hlt : i < O.length
        · obtain ⟨b, off, x, rfl, hb, hx, d1⟩ := (O4.out.below HBL.out).at1 hlt
          obtain ⟨x0, x1⟩ := HBD.out x (List.mem_of_getElem? hx)
          obtain ⟨y, rfl⟩ : ∃ y : Nat, x = y := ⟨x.toNat, by omega⟩
          have hyP : y < P.length := by omega
          obtain ⟨g', off', e, hgb, hg2, hc, hf⟩ := OWN.out.at_ (List.getElem?_eq_getElem hyP)
          injection e with e
          injection e with e1 e2
          subst e1 e2
          have f1 := hf y
          have k1 : wr.cell? ⟨w4.heap.size, y, none⟩ = some (.int .i64 P[y]) := by simpa using hc 0 _ rfl
          have S := OWN.out.set_ (k := 1) (fun _ => rfl) (j := 0) (y' := (i : Int)) (v := .int .i64 (i : Int)) (List.getElem?_eq_getElem hyP) (by omega) rfl
          have F : Aside (∃ P, PlRel w4 O (i + 1) P (wr.setCell ⟨w4.heap.size, y, none⟩ (.int .i64 (i : Int)))) := by
            refine ⟨P.set y (i : Int), by simpa using HPl.out, fun j hj z hz => ?_, by simpa using S, HBL.out.setCell (p := ⟨w4.heap.size, _, none⟩) (Nat.le_refl _) _⟩
            have hzb := HBD.out z (List.mem_of_getElem? hz)
            by_cases e : j = i
            · subst e
              rw [hx] at hz
              injection hz with hz
              subst hz
              rw [Int.toNat_natCast, List.getElem?_set_self hyP]
            · have hne : y ≠ z.toNat := fun e2 => by
                have : (y : Int) = z := by omega
                have h1 : i = j := (List.getElem?_inj (List.getElem?_eq_some_iff.1 hx).1 HND.out).1 (show O[i]? = O[j]? by rw [hx, hz, this])
                omega
              rw [List.getElem?_set_ne hne]
              exact HP.out j (by omega) z hz
          have t1 : decide ((y : Int) < 0) = false := by simp
          have t2 : decide ((y : Int) > 99) = false := by simp; omega
          have t3 : ¬ (99 : Int) < (y : Int) := by omega
          have t4 : ¬ (y : Int) < 0 := by omega
          have t5 : (y : Int) < 100 := by omega
          have i1 : (0 : Int) ≤ (i : Int) := by omega
          have i2 : (i : Int) < (O.length : Int) := by omega
          clear hx hc hf S
          go_wp2
          go_roundg (O.length - (i + 1))
          case measure => omega
          case rel => exact ⟨i + 1, by omega, by omega, by go_num, F⟩
        · have hil : i = O.length := by omega
          subst hil
          have HB6 := hid (chain B4.out HBL.out)
          have H6 := hid (H4.out.next HBL.out)
          have P6 := hid OWN.out.arr
          have HPOS : Hid (∀ t ∈ L, ∃ (y j : Nat), t.Id = y ∧ y < 100 ∧ P[y]? = some (j : Int) ∧ O[j]? = some t.Id) := hid (fun t ht => by
            obtain ⟨⟨h1, h2⟩, j, hj⟩ := HIDS.out t ht
            exact ⟨t.Id.toNat, j, by omega, by omega, HP.out j (List.getElem?_eq_some_iff.1 hj).1 _ hj, hj⟩)
          clear HP OWN HBL
          obtain ⟨wo, hwo⟩ : ∃ wo : World, wo = wr := ⟨_, rfl⟩
          subst hwo
          go_wp2
          go_loopg [7] L.length (fun gg s7 wr => ∃ (i : Nat), i ≤ L.length ∧ L.length - i ≤ gg ∧ s7 = .int .i64 i ∧ Aside (Below wo.heap.size wo wr))
          case atStart => exact ⟨0, Nat.zero_le _, by omega, rfl, Below.refl _ _⟩
          case round =>
            obtain ⟨i, hi, hgg, rfl, R⟩ := hrel
            by_cases hlt : i < L.length
            · go_wp2
              go_loopg [8] L.length (fun gg s8 wr => ∃ (k : Nat), k ≤ L.length ∧ L.length - k ≤ gg ∧ s8 = .int .i64 k ∧ Aside (Below wo.heap.size wo wr))
              case atStart => exact ⟨0, Nat.zero_le _, by omega, rfl, R.out⟩
              case round =>
                obtain ⟨k, hk, hgg2, rfl, R2⟩ := hrel
                by_cases hlt2 : k < L.length
                · obtain ⟨p, off, a, rfl, hp, ha, d1, d2, d3⟩ := (H6.out.below R2.out).atTask hlt
                  obtain ⟨b, hb, -, e1, e2, e3⟩ := (H6.out.below R2.out).litTask hlt2
                  have ham := List.mem_of_getElem? ha
                  have hbm := List.mem_of_getElem? hb
                  obtain ⟨ya, ja, qa1, qa2, qa3, qa4⟩ := HPOS.out a ham
                  obtain ⟨yb, jb, qb1, qb2, qb3, qb4⟩ := HPOS.out b hbm
                  obtain ⟨va, hva, m1, -⟩ := (P6.out.below R2.out).lit1 (show ya < P.length by omega)
                  obtain ⟨vb, hvb, m2, -⟩ := (P6.out.below R2.out).lit1 (show yb < P.length by omega)
                  have eva := hva.symm.trans qa3
                  injection eva with eva
                  have evb := hvb.symm.trans qb3
                  injection evb with evb
                  rw [eva] at m1
                  rw [evb] at m2
                  rw [Nat.zero_add] at m1 m2
                  rw [qa1] at d1
                  rw [qb1] at e1
                  have hrk := fun h1 h2 => HRK.out a ham b hbm h1 h2 ja jb qa4 qb4
                  have i1 : (0 : Int) ≤ (i : Int) := by omega
                  have i2 : (i : Int) < (L.length : Int) := by omega
                  have k1 : (0 : Int) ≤ (k : Int) := by omega
                  have k2 : (k : Int) < (L.length : Int) := by omega
                  have n1 : (ya : Int) < 100 := by omega
                  have n2 : (yb : Int) < 100 := by omega
                  clear ha hb ham hbm hva hvb eva evb qa1 qa3 qa4 qb1 qb3 qb4
                  by_cases hage : a.Age = b.Age
                  · have t1 : (a.Age == b.Age) = true := by rw [beq_iff_eq]; exact hage
                    by_cases hr : a.Rank < b.Rank
                    · have t2 : decide (a.Rank < b.Rank) = true := by simp; omega
                      have hj := hrk hage hr
                      have t3 : decide ((ja : Int) > (jb : Int)) = false := by simp; omega
                      have t4 : decide (jb < ja) = false := by simp; omega
                      clear hage hrk
                      go_wp2_with fail
                      go_quiet (fail)
                      go_wp2
                      go_roundg (L.length - (k + 1))
                      case measure => omega
                      case rel => exact ⟨k + 1, by omega, by omega, by go_num, Below_drewN R2.out _⟩
                    · have t2 : decide (a.Rank < b.Rank) = false := by simp; omega
                      clear hage hrk
                      go_wp2_with fail
                      go_quiet (fail)
                      go_wp2
                      go_roundg (L.length - (k + 1))
                      case measure => omega
                      case rel => exact ⟨k + 1, by omega, by omega, by go_num, Below_drewN R2.out _⟩
                  · have t1 : (a.Age == b.Age) = false := by rw [beq_eq_false_iff_ne]; exact hage
                    clear hage hrk
                    go_wp2_with fail
                    go_quiet (fail)
                    go_wp2
                    go_roundg (L.length - (k + 1))
                    case measure => omega
                    case rel => exact ⟨k + 1, by omega, by omega, by go_num, Below_drewN R2.out _⟩
                · go_wp2
                  go_roundg (L.length - (i + 1))
                  case measure => omega
                  case rel => exact ⟨i + 1, by omega, by omega, by go_num, R2.out⟩
            · go_wp2
              go_ret
              exact ⟨rfl, chain HB6.out R.out⟩
end Go.Proofs.Ythppgaglmgnocaa
