/- FnValidParts: the walk. -/
import Derived.Test.YtjkcejijdpmhoaaV2
import Derived.Test.YtjkcejijdpmhoaaD2
import Derived.Deep.RegionHeld3
import Derived.Deep.RegionLaw
namespace Go.Proofs.Ytjkcejijdpmhoaa
open Go.RowKit Go.Lib

/-- What a law leaves: true; nothing that lay has turned. -/
def Yes (w : World) (e : Ending) (w' : World) : Prop := e = .returned (.bool true) ∧ Below w.heap.size w w'

theorem oneP (x : Int × Int) : ∀ u ∈ encP x, u.oneCell' = true := by
  intro u hu
  simp [encP] at hu
  rcases hu with rfl | rfl <;> rfl
theorem valid_drop {L : List (Int × Int)} (h : validL L = true) (k : Nat) : validL (L.take k ++ L.drop (k + 1)) = true := by
  obtain ⟨h1, h2⟩ := validL_iff.1 h
  refine validL_iff.2 ⟨by simp; omega, fun p hp => h2 p ?_⟩
  rcases List.mem_append.1 hp with hp | hp
  · exact List.mem_of_mem_take hp
  · exact List.mem_of_mem_drop hp

theorem left_valid {w2 w5 : World} {A2 : Option Addr} {c2 k : Nat} {L : List (Int × Int)} (hv : validL L = true) (hk : k < L.length)
    (own5 : w5.ownsRow w2.heap.size 38 2 (.slice A2 (L.length - 1) c2) (L.length - 1) ([] ++ (L.take k).flatMap encP ++ (L.drop (k + 1)).flatMap encP)) :
    Calls Try.prog 19 #[.slice A2 (L.length - 1) c2] w5 fun e w' => e = .returned (.bool true) ∧ Below w5.heap.size w5 w' := by
  have hn : L.length - 1 = (L.take k ++ L.drop (k + 1)).length := by rw [List.length_append, List.length_take, List.length_drop]; omega
  have hl := (validL_iff.1 hv).1
  have hx : [] ++ (L.take k).flatMap encP ++ (L.drop (k + 1)).flatMap encP = (L.take k ++ L.drop (k + 1)).flatMap encP := by rw [List.flatMap_append, List.nil_append]
  have ho : OwnA w5 w2.heap.size 2 encP A2 (L.take k ++ L.drop (k + 1)) := OwnA.of_rowN (fun _ => rfl) hn hx own5
  exact implValid_n A2 (L.take k ++ L.drop (k + 1)) (L.length - 1) c2 true w5 hn (valid_drop hv k) (by omega) ho.arr
theorem nil_valid (w : World) : Calls Try.prog 19 #[.slice none 0 0] w fun e w' => e = .returned (.bool true) ∧ Below w.heap.size w w' :=
  implValid_n none [] 0 0 true w rfl rfl (by omega) Arr.nil_

set_option maxHeartbeats 1000000 in
theorem fnValidParts_any (A : Option Addr) (cap : Nat) (bs : List Int) (w : World) (h : Code w A cap bs) :
    Calls Try.prog 3 #[.slice A bs.length cap] w (Yes w) := by
  have H := hid h
  have hcap := h.cap1
  have hcap2 := h.cap2
  clear h
  by_cases hbig : 1048576 < bs.length
  · go_enter Try.func3, Try.ntmps3
    go_wp2
    go_ret
    exact ⟨rfl, Below.refl _ _⟩
  · go_enter Try.func3, Try.ntmps3
    go_wp2_with fail
    refine (drawValidParts_any A cap bs w H.out).mono ?_
    rintro e w1 ⟨A', c, L, rfl, hL, hc1, hc2, hown, hb⟩
    have OW := hid hown
    have HB := hid hb
    clear hown hb
    have hv := implValid_any A' L c w1 (by omega) OW.out.arr
    cases hval : validL L with
    | false =>
      rw [hval] at hv
      have HV := hid hval
      clear hval
      go_wp2_with fail
      refine hv.mono ?_
      rintro e w2 ⟨rfl, hb2⟩
      have HB2 := hid hb2
      have sv := specValid_any A' L c w2 (by omega) (OW.out.arr.next hb2)
      rw [HV.out] at sv
      clear hb2 hv
      go_wp2_with fail
      refine sv.mono ?_
      rintro e w3 ⟨rfl, rfl⟩
      go_wp2_with fail
      refine sv.mono ?_
      rintro e w3 ⟨rfl, rfl⟩
      go_wp2
      go_ret
      exact ⟨rfl, HB.out.trans (HB2.out.mono HB.out.size)⟩
    | true =>
      rw [hval] at hv
      have HV := hid hval
      clear hval
      go_wp2_with fail
      refine hv.mono ?_
      rintro e w2 ⟨rfl, hb2⟩
      have HB2 := hid hb2
      have sv := specValid_any A' L c w2 (by omega) (OW.out.arr.next hb2)
      rw [HV.out] at sv
      clear hb2 hv
      by_cases hl : L.length = 0
      · have hl0 : ((L.length : Int) == 0) = true := by rw [beq_iff_eq]; omega
        have HL := hid hl
        clear hl
        go_wp2_with fail
        refine sv.mono ?_
        rintro e w3 ⟨rfl, rfl⟩
        go_wp2_with fail
        refine sv.mono ?_
        rintro e w3 ⟨rfl, rfl⟩
        go_wp2
        go_ret
        exact ⟨rfl, HB.out.trans (HB2.out.mono HB.out.size)⟩
      · have hl0 : ((L.length : Int) == 0) = false := by rw [beq_eq_false_iff_ne]; omega
        have hlpos : 0 < L.length := by omega
        clear hl
        have hk1 : (0 : Int) ≤ (bs.length : Int) % (L.length : Int) := Int.emod_nonneg _ (by omega)
        have hk2 : (bs.length : Int) % (L.length : Int) < (L.length : Int) := Int.emod_lt_of_pos _ (by omega)
        go_wp2_with fail
        refine sv.mono ?_
        rintro e w3 ⟨rfl, rfl⟩
        clear sv
        go_wp2_with fail
        have ek : (bs.length : Int) % (L.length : Int) = ((bs.length % L.length : Nat) : Int) := by omega
        have hk3 : bs.length % L.length < L.length := Nat.mod_lt _ hlpos
        rw [ek]
        clear ek hk1 hk2
        generalize bs.length % L.length = k at hk3 ⊢
        have k1 : (k : Int) ≤ (c : Int) := by omega
        have k2 : (k : Int) + 1 ≤ (L.length : Int) := by omega
        have k3 : (L.length : Int) ≤ (c : Int) := by omega
        have k4 : (k : Int) < 13 := by omega
        have k5 : IntKind.i64.wrap ((k : Int) + 1) = (k : Int) + 1 := IntWalk.i64_in _ (by omega)
        have k6 : (0 : Int) ≤ (k : Int) + 1 := by omega
        have k7 : ((k : Int) + 1).toNat = k + 1 := by omega
        have ar : Arr w2 w2.heap.size 2 encP A' L := OW.out.arr.next HB2.out
        have AT := hid (ar.take k)
        have AD := hid (ar.drop hc1 (k + 1))
        have lt : k = (L.take k).length := by rw [List.length_take]; omega
        have ld : L.length - (k + 1) = (L.drop (k + 1)).length := by rw [List.length_drop]
        have LT := hid lt
        have LD := hid ld
        clear ar lt ld
        have VD := HV
        go_region_held3 (fun w' => Below w2.heap.size w2 w') (first | assumption | exact Below.refl _ _ | exact (Below.refl _ _).drew | (exact Below.alloc (by assumption) (by simp) _)) ((first
          | (refine step_append_arr _ eltPart (by rfl) (.tmp 35) (.tmp 38) (by rfl) w2.heap.size _ 0 k [] (by rfl) (World.ownsRow_made _ #[] 0 (by simp) (by simp [maxLen]) rfl) encP (fun _ => rfl) oneP w2.heap.size A' (L.take k) k c (by rfl) LT.out (AT.out.below (by assumption)) (by omega) (by omega) (by simp) ?_; intro A1 c1 w4 own4 gr4; have hb4 : Below w2.heap.size w2 w4 := Below.grown (by assumption) gr4 (by simp) (by intro q hq; simp [Value.ownBlock] at hq; omega))
          | (refine step_append_arr _ eltPart (by rfl) (.tmp 39) (.tmp 43) (by rfl) w2.heap.size _ k (L.length - 1) _ (by rfl) own4 encP (fun _ => rfl) oneP w2.heap.size _ (L.drop (k + 1)) _ _ (by rfl) LD.out (AD.out.below hb4) (by omega) (by omega) hb4.size ?_; intro A2 c2 w5 own5 gr5; have hb5 : Below w2.heap.size w2 w5 := Below.grown hb4 gr5 hb4.size (fun q hq => (own4.lt q hq).1))
          | (have _t := hb6; go_simp; go_at_call 19; refine (nil_valid _).mono ?_; rintro e w7 ⟨rfl, hb7⟩; have hb8 : Below w2.heap.size w2 w7 := hb6.trans (hb7.mono hb6.size); dsimp only)
          | (go_simp; go_at_call 19; refine (left_valid VD.out hk3 own5).mono ?_; rintro e w6 ⟨rfl, hb6'⟩; have hb6 : Below w2.heap.size w2 w6 := hb5.trans (hb6'.mono hb5.size); dsimp only)))
        go_wp2
        all_goals
          go_ret
          exact ⟨rfl, HB.out.trans ((HB2.out.trans (Below.mono (by assumption) HB2.out.size)).mono HB.out.size)⟩

#print axioms fnValidParts_any
end Go.Proofs.Ytjkcejijdpmhoaa
