/- spec.share: the walk. -/
import Derived.Test.YtjebjcabggmaiaaS5
namespace Go.Proofs.Ytjebjcabggmaiaa
set_option linter.unusedVariables false
set_option linter.unusedSimpArgs false
open Go.RowKit Go.Lib

/-- The rests, of which the first k of the order are taken. -/
def restsTo (sp : Int) (ws : List Int) (k : Nat) : List Int := (List.range ws.length).map fun i => if i ∈ (orderOf sp ws).take k then -1 else restAt sp ws i
theorem restsTo_len (sp : Int) (ws : List Int) (k : Nat) : (restsTo sp ws k).length = ws.length := by simp [restsTo]
theorem restsTo_at {sp : Int} {ws : List Int} {k i : Nat} (h : i < ws.length) : (restsTo sp ws k)[i]? = some (if i ∈ (orderOf sp ws).take k then -1 else restAt sp ws i) := by
  unfold restsTo
  rw [List.getElem?_map, List.getElem?_range h]
  rfl
theorem restsTo_next {sp : Int} {ws : List Int} {k x : Nat} (h : (orderOf sp ws)[k]? = some x) : restsTo sp ws (k + 1) = (restsTo sp ws k).set x (-1) := by
  have hx := order_at h
  obtain ⟨hk, he⟩ := List.getElem?_eq_some_iff.1 h
  apply List.ext_getElem?
  intro i
  by_cases hi : i < ws.length
  · rw [restsTo_at hi, List.take_succ_eq_append_getElem hk, he]
    by_cases e : x = i
    · subst e
      rw [List.getElem?_set_self (by rw [restsTo_len]; exact hx), if_pos (by simp)]
    · rw [List.getElem?_set_ne e, restsTo_at hi]
      have : i ≠ x := fun h => e h.symm
      simp [this]
  · rw [List.getElem?_eq_none (by rw [restsTo_len]; omega), List.getElem?_eq_none (by rw [List.length_set, restsTo_len]; omega)]
/-- The rests so far. -/
def restsUp (sp : Int) (ws : List Int) (i : Nat) : List Int := (List.range i).map (restAt sp ws) ++ List.replicate (ws.length - i) 0
theorem restsUp_at {sp : Int} {ws : List Int} {i : Nat} (h : i < ws.length) : (restsUp sp ws i)[i]? = some 0 := by
  unfold restsUp
  rw [List.getElem?_append_right (by simp)]
  simp only [List.length_map, List.length_range, Nat.sub_self, List.getElem?_replicate]
  rw [if_pos (by omega)]
theorem restsUp_next {sp : Int} {ws : List Int} {i : Nat} (h : i < ws.length) : (restsUp sp ws i).set i (restAt sp ws i) = restsUp sp ws (i + 1) := by
  unfold restsUp
  rw [List.set_append_right _ _ (by simp), List.length_map, List.length_range, Nat.sub_self, show ws.length - i = (ws.length - (i + 1)) + 1 by omega, List.replicate_succ, List.set_cons_zero, List.range_succ, List.map_append, List.append_assoc]
  rfl
theorem restsUp_all {sp : Int} {ws : List Int} : restsUp sp ws ws.length = restsTo sp ws 0 := by
  unfold restsUp restsTo
  simp

/-- The result and the rests lie in blocks of their own. -/
def SpRel (w : World) (b2 : Nat) (out rs : List Int) (wr : World) : Prop :=
  OwnA wr w.heap.size 1 encI (some ⟨w.heap.size, 0, none⟩) out ∧ OwnA wr b2 1 encI (some ⟨b2, 0, none⟩) rs ∧ w.heap.size < b2 ∧ b2 < wr.heap.size ∧ Below w.heap.size w wr
section
variable {w wr : World} {b2 : Nat} {out rs : List Int}
theorem SpRel.outAt {i : Nat} {y : Int} (h : SpRel w b2 out rs wr) (hy : out[i]? = some y) : wr.cell? ⟨w.heap.size, i, none⟩ = some (.int .i64 y) ∧ ∀ o, wr.frozen? ⟨w.heap.size, o, none⟩ = false := by
  obtain ⟨g, off, e, _, _, hc, hf⟩ := h.1.at_ hy
  injection e with e
  injection e with e1 e2
  subst e1 e2
  exact ⟨by simpa using hc 0 _ rfl, hf⟩
theorem SpRel.restAt_ {i : Nat} {y : Int} (h : SpRel w b2 out rs wr) (hy : rs[i]? = some y) : wr.cell? ⟨b2, i, none⟩ = some (.int .i64 y) ∧ ∀ o, wr.frozen? ⟨b2, o, none⟩ = false := by
  obtain ⟨g, off, e, _, _, hc, hf⟩ := h.2.1.at_ hy
  injection e with e
  injection e with e1 e2
  subst e1 e2
  exact ⟨by simpa using hc 0 _ rfl, hf⟩
theorem SpRel.setOut {i : Nat} {x y : Int} (h : SpRel w b2 out rs wr) (hy : out[i]? = some y) : SpRel w b2 (out.set i x) rs (wr.setCell ⟨w.heap.size, i, none⟩ (.int .i64 x)) := by
  obtain ⟨h1, h2, h0, h3, h4⟩ := h
  have hg := grown_set (World.grownBy.refl wr (some w.heap.size)) i (.int .i64 x)
  have hs := h1.set_ (k := 1) (fun _ => rfl) (j := 0) (y' := x) (v := .int .i64 x) hy (by omega) rfl
  exact ⟨by simpa using hs, h2.apart hg (fun g e => by injection e with e; omega), h0, Nat.lt_of_lt_of_le h3 hg.size, h4.setCell (p := ⟨w.heap.size, i, none⟩) (Nat.le_refl _) _⟩
theorem SpRel.setRest {i : Nat} {x y : Int} (h : SpRel w b2 out rs wr) (hy : rs[i]? = some y) : SpRel w b2 out (rs.set i x) (wr.setCell ⟨b2, i, none⟩ (.int .i64 x)) := by
  obtain ⟨h1, h2, h0, h3, h4⟩ := h
  have hg := grown_set (World.grownBy.refl wr (some b2)) i (.int .i64 x)
  have hs := h2.set_ (k := 1) (fun _ => rfl) (j := 0) (y' := x) (v := .int .i64 x) hy (by omega) rfl
  exact ⟨h1.far (hi := b2) (fun _ a e => by injection e with e; subst e; exact h0) hg (fun g e => .inr (by injection e with e; omega)), by simpa using hs, h0, Nat.lt_of_lt_of_le h3 hg.size, h4.setCell (p := ⟨b2, i, none⟩) (Nat.le_of_lt h0) _⟩
theorem SpRel.drewN (h : SpRel w b2 out rs wr) (k : Nat) : SpRel w b2 out rs (wr.drewN k) := ⟨h.1, h.2.1, h.2.2.1, h.2.2.2.1, Below_drewN h.2.2.2.2 k⟩
theorem SpRel.below {w' : World} (h : SpRel w b2 out rs wr) (hb : Below wr.heap.size wr w') : SpRel w b2 out rs w' := ⟨h.1.next hb, h.2.1.next hb, h.2.2.1, Nat.lt_of_lt_of_le h.2.2.2.1 hb.size, chain h.2.2.2.2 hb⟩
theorem SpRel.gives {n : Nat} (h : SpRel w b2 out rs wr) (hn : n = out.length) (h8 : n ≤ 1000) : Gives 1 encI out w (.returned (.slice (some ⟨w.heap.size, 0, none⟩) n n)) wr := by
  subst hn
  exact ⟨_, _, rfl, Nat.le_refl _, by simp only [maxLen]; omega, h.1, h.2.2.2.2⟩
end
theorem sp_start {w w1 w2 : World} {L R : List Int} (o1 : OwnA w1 w.heap.size 1 encI (some ⟨w.heap.size, 0, none⟩) L) (g1 : w.grownBy w1 none) (z1 : w1.heap.size = w.heap.size + 1)
    (o2 : OwnA w2 w1.heap.size 1 encI (some ⟨w1.heap.size, 0, none⟩) R) (g2 : w1.grownBy w2 none) (z2 : w2.heap.size = w1.heap.size + 1) : SpRel w w1.heap.size L R w2 := by
  have b1 : Below w.heap.size w w2 := ((Below.refl _ _).grown g1 (Nat.le_refl _) (by simp)).grown g2 (by omega) (by simp)
  exact ⟨o1.apart g2 (fun g e => by cases e), o2, by omega, by omega, b1⟩

/-- The search for the greatest rest. -/
def Pick (R : List Int) (at_ i : Nat) : Prop := at_ < i ∧ (∀ j x y, j < i → R[j]? = some x → R[at_]? = some y → x ≤ y) ∧ (∀ j x y, j < at_ → R[j]? = some x → R[at_]? = some y → x < y)
theorem Pick.start {R : List Int} : Pick R 0 1 := ⟨by omega, fun j x y hj hx hy => by obtain rfl : j = 0 := by omega
                                                                                      rw [hx] at hy; injection hy with hy; omega, fun j _ _ hj => by omega⟩
theorem Pick.more {R : List Int} {at_ i : Nat} {x y : Int} (h : Pick R at_ i) (hx : R[i]? = some x) (hy : R[at_]? = some y) (hlt : y < x) : Pick R i (i + 1) := by
  obtain ⟨h0, h1, h2⟩ := h
  refine ⟨by omega, fun j u v hj hu hv => ?_, fun j u v hj hu hv => ?_⟩
  · rw [hx] at hv
    injection hv with hv
    subst hv
    rcases Nat.lt_or_ge j i with hji | hji
    · have := h1 j u y hji hu hy
      omega
    · obtain rfl : j = i := by omega
      rw [hx] at hu
      injection hu with hu
      omega
  · rw [hx] at hv
    injection hv with hv
    subst hv
    have := h1 j u y hj hu hy
    omega
theorem Pick.same {R : List Int} {at_ i : Nat} {x y : Int} (h : Pick R at_ i) (hx : R[i]? = some x) (hy : R[at_]? = some y) (hlt : ¬ y < x) : Pick R at_ (i + 1) := by
  obtain ⟨h0, h1, h2⟩ := h
  refine ⟨by omega, fun j u v hj hu hv => ?_, h2⟩
  rcases Nat.lt_or_ge j i with hji | hji
  · exact h1 j u v hji hu hv
  · obtain rfl : j = i := by omega
    rw [hx] at hu
    rw [hy] at hv
    injection hu with hu
    injection hv with hv
    omega
theorem pick_next {sp : Int} {ws : List Int} {k at_ : Nat} (hS : 0 < ws.sum) (hk : k < ws.length) (h : Pick (restsTo sp ws k) at_ ws.length) : (orderOf sp ws)[k]? = some at_ := by
  obtain ⟨h0, h1, h2⟩ := h
  exact (order_good sp ws).pick hk (fun i _ => rest_nonneg hS i) h0 (fun i hi => h1 i _ _ hi (restsTo_at hi) (restsTo_at h0)) (fun i hi => h2 i _ _ hi (restsTo_at (by omega)) (restsTo_at h0))

set_option maxHeartbeats 4000000 in
theorem shareS_any (sp : Int) (A : Option Addr) (ws : List Int) (c : Nat) (w : World) (hsp : 0 ≤ sp ∧ sp ≤ 200000) (hl : 0 < ws.length) (hl8 : ws.length ≤ 8) (hw : smallI ws) (h : Arr w w.heap.size 1 encI A ws) :
    Calls Try.prog 33 #[.int .i64 sp, .slice A ws.length c] w (Gives 1 encI (shareM sp ws) w) := by
  have H := hid h
  have HW := hid hw
  have TOT := hid (fun W (hW : Arr W W.heap.size 1 encI A ws) => sumS_any A ws ws.length c W rfl (by omega) hw hW)
  have hsb := sums_bd hw (by omega) ws.length
  rw [List.take_length] at hsb
  obtain ⟨sb1, sb2⟩ := hsb
  obtain ⟨sp1, sp2⟩ := hsp
  by_cases hs : ws.sum = 0
  · have hs1 : (ws.sum == 0) = true := by rw [hs]; rfl
    have hM : shareM sp ws = List.replicate ws.length 0 := by unfold shareM; rw [if_pos hs]
    rw [hM]
    clear h hw hM
    generalize ws.sum = S at *
    subst hs
    go_enter Try.func33, Try.ntmps33
    go_wp2_with (at_make; first
      | (refine wpList_makeE _ eltIntS (.int .i64 0) (by kernel_rfl) encI (fun _ => rfl) 0 rfl rfl (.tmp 13) (.tmp 13) rfl ws.length rfl rfl (by omega) ?_; intro w1 own1 gr1 sz1; have O1 := hid own1; have G1 := hid gr1; have Z1 := hid sz1; clear own1 gr1 sz1)
      | (refine wpList_makeE _ eltIntS (.int .i64 0) (by kernel_rfl) encI (fun _ => rfl) 0 rfl rfl (.tmp 16) (.tmp 16) rfl ws.length rfl rfl (by omega) ?_; intro w2 own2 gr2 sz2; have SP := hid (sp_start O1.out G1.out Z1.out own2 gr2 sz2); clear own2 gr2 sz2 O1 G1 Z1))
    have SE := hid SP.out.2.2.2.2
    have H1 := hid (H.out.next SE.out)
    clear SE
    refine (TOT.out _ H1.out).mono ?_
    rintro e w3 ⟨rfl, b3⟩
    have SG := hid (SP.out.below b3)
    clear b3
    go_wp2
    go_ret
    exact SG.out.gives (by simp) (by omega)
  · have hs1 : (ws.sum == 0) = false := by rw [beq_eq_false_iff_ne]; exact hs
    have hM : shareM sp ws = shareTo sp ws (leftOf sp ws).toNat := by unfold shareM; rw [if_neg hs]
    have hS : 0 < ws.sum := by omega
    have hlb := left_bd sp1 (smallI_w hw) hS
    have BS := hid (sums_bd (bases_small ⟨sp1, sp2⟩ hw hS) (by rw [bases_len]; omega))
    have PICK := hid (fun (k at_ : Nat) (hk : k < ws.length) (h : Pick (restsTo sp ws k) at_ ws.length) => pick_next hS hk h)
    have hk0 : leftOf sp ws = ((leftOf sp ws).toNat : Int) := by omega
    have hkn : (leftOf sp ws).toNat ≤ ws.length := by omega
    have HK0 := hid hk0
    rw [hM]
    clear h hw hM hlb hk0
    generalize hSS : ws.sum = S at *
    have ESS := hid hSS
    clear hSS
    generalize hkk : (leftOf sp ws).toNat = k at *
    clear hkk
    go_enter Try.func33, Try.ntmps33
    go_wp2_with (at_make; first
      | (refine wpList_makeE _ eltIntS (.int .i64 0) (by kernel_rfl) encI (fun _ => rfl) 0 rfl rfl (.tmp 13) (.tmp 13) rfl ws.length rfl rfl (by omega) ?_; intro w1 own1 gr1 sz1; have O1 := hid own1; have G1 := hid gr1; have Z1 := hid sz1; clear own1 gr1 sz1)
      | (refine wpList_makeE _ eltIntS (.int .i64 0) (by kernel_rfl) encI (fun _ => rfl) 0 rfl rfl (.tmp 16) (.tmp 16) rfl ws.length rfl rfl (by omega) ?_; intro w2 own2 gr2 sz2; have SP := hid (sp_start O1.out G1.out Z1.out own2 gr2 sz2); clear own2 gr2 sz2 O1 G1 Z1))
    have SE := hid SP.out.2.2.2.2
    have H1 := hid (H.out.next SE.out)
    clear SE
    refine (TOT.out _ H1.out).mono ?_
    rintro e w3 ⟨rfl, b3⟩
    have SG := hid (SP.out.below b3)
    clear b3 SP H1
    generalize w1.heap.size = b2 at *
    go_wp2
    go_loopg [8, 9] ws.length (fun gg s8 s9 wr => ∃ i : Nat, i ≤ ws.length ∧ ws.length - i ≤ gg ∧ s8 = .int .i64 (sp - ((bases sp ws).take i).sum) ∧ s9 = .int .i64 i ∧ Aside (SpRel w b2 ((bases sp ws).take i ++ List.replicate (ws.length - i) 0) (restsUp sp ws i) wr))
    case atStart => exact ⟨0, Nat.zero_le _, by omega, by simp, rfl, show SpRel w b2 _ _ _ by simpa [restsUp] using SG.out⟩
    case round =>
      obtain ⟨i, hi, hgg, rfl, rfl, R⟩ := hrel
      clear SG
      by_cases hlt : i < ws.length
      · have sr := hid R.out
        have hb1 := sr.out.2.2.2.2
        obtain ⟨b, off, x, rfl, hb, hx, e1⟩ := (H.out.below hb1).at1 hlt
        obtain ⟨z1, z2⟩ := sr.out.outAt (bases_zero (sp := sp) hlt rfl)
        have z3 := z2 i
        have hbx := HW.out x (List.mem_of_getElem? hx)
        have hp := mul_bd ⟨sp1, sp2⟩ hbx
        have m1 : IntKind.i64.wrap (sp * x) = sp * x := IntWalk.i64_in _ (by omega)
        have d1 : IntKind.i64.wrap ((sp * x).tdiv S) = baseAt sp ws i := by
          rw [IntWalk.i64_quo _ _ ⟨hp.1, by omega, by omega⟩]
          unfold baseAt
          rw [wAt_of hx, ESS.out]
        have t1 : (sp * x).tmod S = restAt sp ws i := by
          rw [Int.tmod_eq_emod_of_nonneg hp.1]
          unfold restAt
          rw [wAt_of hx, ESS.out]
        have y1 : S ≠ 0 := by omega
        have y2 : (S == 0) = false := by rw [beq_eq_false_iff_ne]; exact y1
        have S1 := sr.out.setOut (x := baseAt sp ws i) (bases_zero (sp := sp) hlt rfl)
        rw [bases_next hlt rfl] at S1
        obtain ⟨u1, u2⟩ := S1.restAt_ (restsUp_at hlt)
        have u3 := u2 i
        have S2 := S1.setRest (x := restAt sp ws i) (restsUp_at hlt)
        rw [restsUp_next hlt] at S2
        have hbn : ((bases sp ws).take (i + 1) ++ List.replicate (ws.length - (i + 1)) (0 : Int))[i]? = some (baseAt sp ws i) := by
          rw [← bases_next hlt rfl, List.getElem?_set_self (by simp [bases_len]; omega)]
        obtain ⟨v1, _⟩ := S2.outAt hbn
        have e2 := (H.out.below S1.2.2.2.2).lit1 (i := i) hlt
        obtain ⟨x2, hx2, e2, _⟩ := e2
        rw [hx] at hx2
        injection hx2 with hx2
        subst hx2
        have hsn := sum_take_next (bases_at (sp := sp) hlt)
        have g1 := BS.out i
        have g2 := BS.out (i + 1)
        have q1 : IntKind.i64.wrap (sp - ((bases sp ws).take i).sum - baseAt sp ws i) = sp - ((bases sp ws).take (i + 1)).sum := by
          rw [IntWalk.i64_in _ (by omega)]
          omega
        have S2' := hid S2
        clear R sr z2 u2 hb hx hbx hp S1 S2 hbn hsn g1 g2 hb1
        generalize baseAt sp ws i = y at *
        generalize restAt sp ws i = r at *
        go_wp2
        go_roundg (ws.length - (i + 1))
        case measure => omega
        case rel => exact ⟨i + 1, by omega, by omega, rfl, by go_num, S2'⟩
      · obtain rfl : i = ws.length := by omega
        have l8 : sp - ((bases sp ws).take ws.length).sum = (k : Int) := by
          have h1 := HK0.out
          have h2 : leftOf sp ws = sp - (bases sp ws).sum := rfl
          rw [List.take_of_length_le (by rw [bases_len]; exact Nat.le_refl _)]
          omega
        have R0 : Aside (SpRel w b2 (shareTo sp ws 0) (restsTo sp ws 0) wr) := by
          have := R.out
          rw [restsUp_all, List.take_of_length_le (by rw [bases_len]; exact Nat.le_refl _), Nat.sub_self, List.replicate_zero, List.append_nil, ← shareTo_zero] at this
          exact this
        have R0' := hid R0.out
        clear R R0
        rw [l8]
        clear l8
        have hkz : (0 : Int) ≤ (k : Int) := by omega
        go_wp2_with fail
        go_loopg [8, 10, 11] k (fun gg s8 _ _ wr => ∃ j m : Nat, j + m = k ∧ m ≤ gg ∧ s8 = .int .i64 m ∧ Aside (SpRel w b2 (shareTo sp ws j) (restsTo sp ws j) wr))
        case atStart => exact ⟨0, k, by omega, Nat.le_refl _, rfl, R0'.out⟩
        case round =>
          obtain ⟨j, m, hjm, hgg, rfl, R⟩ := hrel
          clear R0'
          have SR := hid R.out
          clear R
          by_cases hm : 0 < m
          · obtain ⟨m', hm'⟩ : ∃ m' : Nat, m = m' + 1 := ⟨m - 1, by omega⟩
            have hm0 : (0 : Int) < (m : Int) := by omega
            have j3 : IntKind.i64.wrap ((m : Int) - 1) = (m' : Int) := by
              rw [IntWalk.i64_in _ (by omega)]
              omega
            have HM := hid hm'
            clear hm'
            obtain ⟨wo, hwo⟩ : ∃ wo : World, wo = wr := ⟨_, rfl⟩
            subst hwo
            go_wp2_with fail
            go_loopg [10, 11] ws.length (fun gg s10 s11 wr2 => ∃ a i : Nat, 1 ≤ i ∧ i ≤ ws.length ∧ ws.length - i ≤ gg ∧ a < ws.length ∧ s10 = .int .i64 a ∧ s11 = .int .i64 i ∧ Aside (Pick (restsTo sp ws j) a i) ∧ Aside (SpRel w b2 (shareTo sp ws j) (restsTo sp ws j) wr2))
            case atStart => exact ⟨0, 1, by omega, by omega, by omega, by omega, rfl, rfl, Pick.start, SR.out⟩
            case round =>
              obtain ⟨a, i, hi1, hi, hgg2, hal, rfl, rfl, P, R⟩ := hrel
              clear SR
              by_cases hlt : i < ws.length
              · have hx := restsTo_at (sp := sp) (k := j) hlt
                have hy := restsTo_at (sp := sp) (k := j) hal
                generalize (if i ∈ (orderOf sp ws).take j then -1 else restAt sp ws i) = x at hx
                generalize (if a ∈ (orderOf sp ws).take j then -1 else restAt sp ws a) = y at hy
                obtain ⟨x1, _⟩ := R.out.restAt_ hx
                obtain ⟨y1, _⟩ := R.out.restAt_ hy
                have hl2 : (restsTo sp ws j).length = ws.length := restsTo_len _ _ _
                have SR := hid R.out
                have a1 : (0 : Int) ≤ (a : Int) := by omega
                have a2 : (a : Int) < (ws.length : Int) := by omega
                by_cases hxy : y < x
                · have P' : Aside (Pick (restsTo sp ws j) i (i + 1)) := P.out.more hx hy hxy
                  have PP := hid P'.out
                  clear P P' R hx hy hl2
                  go_wp2
                  go_quiet (fail)
                  go_wp2
                  go_roundg (ws.length - (i + 1))
                  case measure => omega
                  case rel => exact ⟨i, i + 1, by omega, by omega, by omega, by omega, rfl, by go_num, PP.out, SR.out.drewN _⟩
                · have P' : Aside (Pick (restsTo sp ws j) a (i + 1)) := P.out.same hx hy hxy
                  have PP := hid P'.out
                  have hxy2 : x ≤ y := by omega
                  clear P P' R hx hy hl2
                  go_wp2
                  go_quiet (fail)
                  go_wp2
                  go_roundg (ws.length - (i + 1))
                  case measure => omega
                  case rel => exact ⟨a, i + 1, by omega, by omega, by omega, by omega, rfl, by go_num, PP.out, SR.out.drewN _⟩
              · obtain rfl : i = ws.length := by omega
                have ho := PICK.out j a (by have := HM.out; omega) P.out
                obtain ⟨hn1, hn2⟩ := shareTo_next ho
                have hn3 := restsTo_next ho
                obtain ⟨z1, z2⟩ := R.out.outAt hn2
                have z3 := z2 a
                obtain ⟨y1, y2⟩ := base_le sp1 (smallI_w HW.out) (by rw [ESS.out]; exact hS) (order_at ho)
                have S1 := R.out.setOut (x := baseAt sp ws a + 1) hn2
                rw [← hn1] at S1
                obtain ⟨u1, u2⟩ := S1.restAt_ (restsTo_at (sp := sp) (k := j) (order_at ho))
                have u3 := u2 a
                have S2 := S1.setRest (x := -1) (restsTo_at (sp := sp) (k := j) (order_at ho))
                rw [← hn3] at S2
                have SR := hid S2
                have a1 : (0 : Int) ≤ (a : Int) := by omega
                have a2 : (a : Int) < (ws.length : Int) := by omega
                clear P R ho hn1 hn2 hn3 z2 S1 S2 u2
                generalize baseAt sp ws a = y at *
                generalize (if a ∈ (orderOf sp ws).take j then -1 else restAt sp ws a) = r at u1
                go_wp2
                go_roundg (m')
                case measure => have := HM.out; omega
                case rel => exact ⟨j + 1, m', by have := HM.out; omega, Nat.le_refl _, rfl, SR.out⟩
          · obtain rfl : m = 0 := by omega
            have hjk : j = k := by omega
            have SE := hid SR.out
            rw [hjk] at SE
            clear SR hjk
            go_wp2
            go_ret
            exact SE.out.gives (by rw [shareTo_len]) (by omega)
end Go.Proofs.Ytjebjcabggmaiaa
