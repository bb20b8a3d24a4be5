/- The order of the rests: the closure; the library's stable sort of a few numbers. -/
import Derived.Test.YtjebjcabggmaiaaS2
import Derived.Deep.RegionLaw
import Derived.Shelf.RegionOpenPlain
namespace Go.Proofs.Ytjebjcabggmaiaa
set_option linter.unusedVariables false
set_option linter.unusedSimpArgs false
open Go.RowKit Go.Lib

def encNat (x : Nat) : List Value := [.int .i64 (x : Int)]
theorem mul_bd {a b A B : Int} (ha : 0 ≤ a ∧ a ≤ A) (hb : 0 ≤ b ∧ b ≤ B) : 0 ≤ a * b ∧ a * b ≤ A * B := by
  refine ⟨Int.mul_nonneg ha.1 hb.1, ?_⟩
  exact Int.mul_le_mul ha.2 hb.2 hb.1 (by omega)

set_option maxHeartbeats 1000000 in
theorem shareCmp_any (sp S x y : Int) (i k b2 b3 b6 n wc : Nat) (wA : Option Addr) (ws : List Int) (w : World) (hsp : 0 ≤ sp ∧ sp ≤ 200000) (hS : 0 < S) (hn : n = ws.length) (hn8 : n ≤ 1000)
    (hx : ws[i]? = some x) (hy : ws[k]? = some y) (hx0 : 0 ≤ x ∧ x ≤ 1000000) (hy0 : 0 ≤ y ∧ y ≤ 1000000)
    (h2 : w.cell? ⟨b2, 0, none⟩ = some (.int .i64 sp)) (h3 : w.cell? ⟨b3, 0, none⟩ = some (.slice wA n wc)) (h6 : w.cell? ⟨b6, 0, none⟩ = some (.int .i64 S)) (hA : Arr w w.heap.size 1 encI wA ws) :
    Calls Try.prog 42 #[.int .i64 (i : Int), .int .i64 (k : Int), .pointer (some ⟨b2, 0, none⟩), .pointer (some ⟨b3, 0, none⟩), .pointer (some ⟨b6, 0, none⟩)] w fun e w' => e = .returned (.int .i64 (cmpI (sp * y % S) (sp * x % S))) ∧ ∃ m, w' = w.drewN m := by
  have li := (List.getElem?_eq_some_iff.1 hx).1
  have lk := (List.getElem?_eq_some_iff.1 hy).1
  obtain ⟨b, off, x', rfl, hb, hx', c1⟩ := hA.at1 li
  obtain ⟨y', hy', c2, _⟩ := hA.lit1 lk
  obtain rfl : x = x' := by rw [hx'] at hx; injection hx with hx; exact hx.symm
  obtain rfl : y = y' := by rw [hy'] at hy; injection hy with hy; exact hy.symm
  have HC := hid (fun u v (W : World) => compare_any u v W)
  have p1 := mul_bd hsp hx0
  have p2 := mul_bd hsp hy0
  have m1 : IntKind.i64.wrap (sp * x) = sp * x := IntWalk.i64_in _ (by omega)
  have m2 : IntKind.i64.wrap (sp * y) = sp * y := IntWalk.i64_in _ (by omega)
  have r1 : (sp * x).tmod S = sp * x % S := Int.tmod_eq_emod_of_nonneg p1.1
  have r2 : (sp * y).tmod S = sp * y % S := Int.tmod_eq_emod_of_nonneg p2.1
  have z1 : S ≠ 0 := by omega
  have z2 : (S == 0) = false := by rw [beq_eq_false_iff_ne]; exact z1
  have i1 : (0 : Int) ≤ (i : Int) := by omega
  have i2 : (i : Int) < (n : Int) := by omega
  have k1 : (0 : Int) ≤ (k : Int) := by omega
  have k2 : (k : Int) < (n : Int) := by omega
  clear hx hy hx' hy' hA li lk hx0 hy0 p1 p2 hn
  go_enter Try.func42, Try.ntmps42
  go_wp2_with fail
  go_quiet ((go_at_call 43; exact Calls.quiet_of_same (HC.out _ _ _)))
  go_wp2
  go_ret
  exact ⟨rfl, _, rfl⟩

/-- A list of numbers with number i at place j of an order of the numbers below i. -/
def insN (P : List Nat) (i j m : Nat) : List Nat := P.take j ++ i :: (P.drop j ++ List.range' (i + 1) (m - (i + 1)))
theorem insN_start {P : List Nat} {i m : Nat} (hP : P.length = i) (hi : i < m) : insN P i i m = P ++ List.range' i (m - i) := by
  unfold insN
  rw [List.take_of_length_le (by omega), List.drop_of_length_le (by omega), List.nil_append, show m - i = (m - (i + 1)) + 1 by omega, List.range'_succ]
theorem insN_end {P : List Nat} {i j m : Nat} : insN P i j m = (P.take j ++ i :: P.drop j) ++ List.range' (i + 1) (m - (i + 1)) := by
  unfold insN
  simp
theorem insN_at {P : List Nat} {i j m : Nat} (hj : j ≤ P.length) : (insN P i j m)[j]? = some i := by
  unfold insN
  rw [List.getElem?_append_right (by rw [List.length_take]; omega), List.length_take, show j - min j P.length = 0 by omega]
  rfl
theorem insN_prev {P : List Nat} {i j m x : Nat} (hx : P[j]? = some x) : (insN P i (j + 1) m)[j]? = some x := by
  unfold insN
  have := (List.getElem?_eq_some_iff.1 hx).1
  rw [List.getElem?_append_left (by rw [List.length_take]; omega), List.getElem?_take, if_pos (by omega)]
  exact hx
theorem insN_swap {P : List Nat} {i j m x : Nat} (hx : P[j]? = some x) : ((insN P i (j + 1) m).set (j + 1) x).set j i = insN P i j m := by
  obtain ⟨hj, rfl⟩ := List.getElem?_eq_some_iff.1 hx
  unfold insN
  rw [List.take_succ_eq_append_getElem hj, List.drop_eq_getElem_cons hj]
  have hl : (P.take j).length = j := by rw [List.length_take]; omega
  rw [List.append_assoc, List.set_append_right _ _ (by omega), hl, show j + 1 - j = 1 by omega]
  simp only [List.cons_append, List.nil_append, List.set_cons_succ, List.set_cons_zero]
  rw [List.set_append_right _ _ (by omega), hl, Nat.sub_self, List.set_cons_zero]
theorem insN_prevP {P : List Nat} {i j k m x : Nat} (hj : j = k + 1) (hx : P[k]? = some x) : (insN P i j m)[k]? = some x := by
  subst hj
  exact insN_prev hx
theorem insN_swapP {P : List Nat} {i j k m x : Nat} (hj : j = k + 1) (hx : P[k]? = some x) : ((insN P i j m).set j x).set k i = insN P i k m := by
  subst hj
  exact insN_swap hx
theorem Good.one (r : Nat → Int) : Good r [0] 1 := by
  have := (Good.nil r).put (j := 0) (Nat.le_refl 0) (by simp) (by simp)
  simpa using this

/-- What is asked of the closure. -/
def CmpOk (r : Nat → Int) (m base : Nat) (lb : Array Value) (w : World) : Prop :=
  ∀ (W : World) (i k : Nat), Below base w W → i < m → k < m → Calls Try.prog 42 (#[.int .i64 (i : Int), .int .i64 (k : Int)] ++ lb) W fun e w' => e = .returned (.int .i64 (cmpI (r k) (r i))) ∧ ∃ n, w' = W.drewN n
/-- The loops' relations. -/
def OutRel (r : Nat → Int) (A : Option Addr) (m base i : Nat) (w wr : World) : Prop :=
  ∃ P, Good r P i ∧ OwnA wr base 1 encNat A (P ++ List.range' i (m - i)) ∧ Below base w wr
def InRel (r : Nat → Int) (P : List Nat) (A : Option Addr) (m base i j : Nat) (w wr : World) : Prop :=
  (∀ x ∈ P.drop j, r x < r i) ∧ OwnA wr base 1 encNat A (insN P i j m) ∧ Below base w wr

set_option maxHeartbeats 4000000 in
theorem insertion_any (r : Nat → Int) (A : Option Addr) (m c base : Nat) (lb : Array Value) (w : World) (hm : 0 < m) (hm8 : m ≤ 1000) (hbase : base ≤ w.heap.size) (h : OwnA w base 1 encNat A (List.range m)) (hc : CmpOk r m base lb w) :
    Calls Try.prog 47 #[.slice A m c, .int .i64 0, .int .i64 (m : Int), .func (.func 42) #[] lb] w fun e w' => e = .returned (.tuple #[]) ∧ OwnA w' base 1 encNat A (ordOf r m) ∧ Below base w w' := by
  have eg := enters_of Try.func42 (by kernel_rfl) rfl
  have R0 : Aside (OutRel r A m base 1 w w) := ⟨[0], Good.one r, by
    rw [List.range_eq_range', show m = (m - 1) + 1 by omega, List.range'_succ] at h
    simpa using h, Below.refl _ _⟩
  have HC := hid hc
  clear h hc
  go_enter Try.func47, Try.ntmps47
  go_wp2
  go_loopg [8, 9] m (fun gg s8 _ wr => ∃ i : Nat, 1 ≤ i ∧ i ≤ m ∧ m - i ≤ gg ∧ s8 = .int .i64 i ∧ Aside (OutRel r A m base i w wr))
  case atStart => exact ⟨1, Nat.le_refl _, hm, by omega, rfl, R0⟩
  case round =>
    obtain ⟨wo, hwo⟩ : ∃ wo : World, wo = wr := ⟨_, rfl⟩
    subst hwo
    obtain ⟨i, hi1, hi, hgg, rfl, R⟩ := hrel
    clear R0
    obtain ⟨P, hP, hown, hbl⟩ := R.out
    have hPl := hP.length
    by_cases hlt : i < m
    · have HP := hid hP
      have R1 : Aside (InRel r P A m base i i w wo) := ⟨fun x hx => by rw [List.drop_of_length_le (by omega)] at hx; simp at hx, by rw [insN_start hPl hlt]; exact hown, hbl⟩
      clear R hown hbl hP
      go_wp2
      go_loopg [9] i (fun gg s9 wr => ∃ j : Nat, j ≤ i ∧ j ≤ gg ∧ s9 = .int .i64 j ∧ Aside (InRel r P A m base i j w wr))
      case atStart => exact ⟨i, Nat.le_refl _, Nat.le_refl _, rfl, R1⟩
      case round =>
        obtain ⟨j, hj, hg2, rfl, R2⟩ := hrel
        clear R1
        obtain ⟨hall, own, bel⟩ := R2.out
        by_cases hj0 : 0 < j
        · obtain ⟨k, hk⟩ : ∃ k, j = k + 1 := ⟨j - 1, by omega⟩
          have hjP : k < P.length := by omega
          have hx := List.getElem?_eq_getElem hjP
          have hxm : P[k] < i := (HP.out.mem _).1 (List.getElem_mem hjP)
          generalize P[k] = x at hx hxm
          have hcall := fun n => HC.out (wr.drewN n) i x (Below_drewN bel n) hlt (by omega)
          obtain ⟨g, off, rfl, hgb, hg3, hc1, hf⟩ := own.at_ (insN_at (i := i) (j := j) (m := m) (P := P) (by omega))
          obtain ⟨g', off', e, _, _, hc2, _⟩ := own.at_ (insN_prevP (i := i) (m := m) hk hx)
          injection e with e
          injection e with e1 e2
          subst e1 e2
          have c1 : wr.cell? ⟨g, off + j, none⟩ = some (.int .i64 i) := by simpa using hc1 0 _ rfl
          have c2 : wr.cell? ⟨g, off + (k), none⟩ = some (.int .i64 x) := by simpa using hc2 0 _ rfl
          have f1 := hf (off + j)
          have f2 := hf (off + (k))
          have j1 : (0 : Int) < (j : Int) := by omega
          have j2 : (j : Int) < (m : Int) := by omega
          have j3 : IntKind.i64.wrap ((j : Int) - 1) = (k : Int) := by rw [IntWalk.i64_in _ (by omega)]; omega
          have j4 : (0 : Int) ≤ (k : Int) := by omega
          have j5 : (k : Int) < (m : Int) := by omega
          have hbd := cmpI_bd (r x) (r i)
          have hkj : k < j := by omega
          by_cases hlt2 : r x < r i
          · have hneg := (cmpI_lt (r x) (r i)).2 hlt2
            have S1 := own.set_ (k := 1) (fun _ => rfl) (j := 0) (y' := x) (v := .int .i64 x) (insN_at (i := i) (j := j) (m := m) (P := P) (by omega)) (by omega) rfl
            have S2 := S1.set_ (k := 1) (fun _ => rfl) (j := 0) (y' := i) (v := .int .i64 i) (i := k) (y := x) (by rw [List.getElem?_set_ne (by omega)]; exact insN_prevP hk hx) (by omega) rfl
            rw [insN_swapP hk hx] at S2
            have hd' : ∀ q ∈ P.drop (k), r q < r i := fun q hq => by
              obtain ⟨hjj, hxe⟩ := List.getElem?_eq_some_iff.1 hx
              rw [List.drop_eq_getElem_cons hjj, hxe, ← hk] at hq
              rcases List.mem_cons.1 hq with rfl | hq
              · exact hlt2
              · exact hall q hq
            have F : ∀ n n', Aside (InRel r P (some ⟨g, off, none⟩) m base i (k) w ((((wr.drewN n).setCell ⟨g, off + j, none⟩ (.int .i64 x)).setCell ⟨g, off + (k), none⟩ (.int .i64 i)).drewN n')) := fun n n' =>
              ⟨hd', (show OwnA ((wr.setCell ⟨g, off + j, none⟩ (.int .i64 x)).setCell ⟨g, off + (k), none⟩ (.int .i64 i)) base 1 encNat (some ⟨g, off, none⟩) _ by simpa using S2), Below_drewN (((Below_drewN bel n).setCell (p := ⟨g, off + j, none⟩) hgb _).setCell (p := ⟨g, off + (k), none⟩) hgb _) n'⟩
            have HF := hid F
            have HCC := hid hcall
            have mixed : Try.prog.follows Departure.mixedOrders = true := by kernel_rfl
            have ne1 : j ≠ k := by omega
            have ne2 : k ≠ j := by omega
            clear F S1 S2 hd' hall own bel hx hc1 hc2 hf R2 hcall hlt2 hk
            generalize cmpI (r x) (r i) = q at *
            go_wp2_with fail
            go_quiet ((exact Calls.quiet_of (HCC.out _)))
            go_wp2_with fail
            go_region_o
            go_wp2
            go_roundg k
            case measure => omega
            case rel => exact ⟨k, by omega, Nat.le_refl _, by go_num, HF.out nq 1⟩
          · have hneg : ¬ cmpI (r x) (r i) < 0 := fun e => hlt2 ((cmpI_lt _ _).1 e)
            have hput := HP.out.put (j := j) (m := i) (by omega) hall (fun k' y e hy => by
              obtain rfl : k' = k := by omega
              rw [hx] at hy
              injection hy with hy
              subst hy
              omega)
            have F : ∀ n, Aside (OutRel r (some ⟨g, off, none⟩) m base (i + 1) w (wr.drewN n)) := fun n => ⟨_, hput, (show OwnA wr _ _ _ _ _ by rw [← insN_end]; exact own), Below_drewN bel n⟩
            have HF := hid F
            have HCC := hid hcall
            clear F hput hall own bel hx hc1 hc2 hf R2 hcall hlt2 hk
            generalize cmpI (r x) (r i) = q at *
            go_wp2_with fail
            go_quiet ((exact Calls.quiet_of (HCC.out _)))
            go_wp2
            go_roundg (m - (i + 1))
            case measure => omega
            case rel => exact ⟨i + 1, by omega, by omega, by omega, by go_num, HF.out nq⟩
        · obtain rfl : j = 0 := by omega
          have hput := HP.out.put (j := 0) (m := i) (Nat.zero_le _) hall (fun k y e => by omega)
          have F : ∀ n, Aside (OutRel r A m base (i + 1) w (wr.drewN n)) := fun n => ⟨_, hput, (show OwnA wr _ _ _ _ _ by rw [← insN_end]; exact own), Below_drewN bel n⟩
          have HF := hid F
          clear F hput hall own bel R2
          go_wp2_with fail
          go_quiet (fail)
          go_wp2
          go_roundg (m - (i + 1))
          case measure => omega
          case rel => exact ⟨i + 1, by omega, by omega, by omega, by go_num, HF.out nq⟩
    · obtain rfl : i = m := by omega
      have HO : Aside (OwnA wo base 1 encNat A (ordOf r i)) := by
        have := hP.unique (ordOf_good r i)
        subst this
        show OwnA _ _ _ _ _ _
        simpa using hown
      have HB := hid hbl
      clear R hown hbl hP
      go_wp2
      go_end0
      exact ⟨rfl, HO.out, HB.out⟩
end Go.Proofs.Ytjebjcabggmaiaa
