/- The generators of trees: spec.anyTree, the laws'. Written by a program of ours. -/
import Derived.Test.YtpahljbcffmaaaaB16
namespace Go.Proofs.Ytpahljbcffmaaaa
set_option linter.unusedVariables false
set_option linter.unusedSimpArgs false
open Go.RowKit Go.Lib

/-- What a generator of a tree that may be bad leaves. -/
def AnyGo (w : World) (r : Nat) (A : Option Addr) (cap : Nat) (bs : List Int) (p k : Nat) (e : Ending) (w' : World) : Prop :=
  ∃ (A' : Option Addr) (c : Nat) (L : List BoxD), e = .returned (.slice A' L.length c) ∧ L.length ≤ 16 ∧ L.length ≤ c ∧ c ≤ maxLen ∧ Arr w' w'.heap.size 9 encBox A' L ∧ (∀ a, A' = some a → w.heap.size ≤ a.block) ∧ RGo w r A cap bs p k w'

set_option maxRecDepth 100000 in
set_option maxHeartbeats 8000000 in
theorem anyTree_any (r : Nat) (A : Option Addr) (cap : Nat) (bs : List Int) (p : Nat) (w : World) (h : Rd w r A cap bs p) (hp : p ≤ 1000) :
    Calls Try.prog 44 #[.pointer (some ⟨r, 0, none⟩)] w (AnyGo w r A cap bs p 210) := by
  have hrlt := h.lt
  have HC := hid (someTree_any r A cap bs p w h hp)
  clear h
  go_enter Try.func44, Try.ntmps44
  go_wp2_with fail
  refine HC.out.mono ?_
  rintro e w1 ⟨A1, c1, L, rfl, hl0, hl16, o1, p1, r1, hp1, g1⟩
  have O1 := hid o1
  have R1 := hid r1
  have G1 := hid g1
  clear o1 r1 g1 HC
  go_wp2_with fail
  (with_reducible refine (pick_any r A cap bs p1 _ _ R1.out (by omega) (by omega)).mono ?_)
  rintro e w2 ⟨k, rfl, hk, hr2⟩
  obtain ⟨k, rfl⟩ : ∃ q : Nat, k = q := ⟨k.toNat, by omega⟩
  have hkL : k < L.length := by omega
  obtain ⟨x, hx⟩ : ∃ x, L[k]? = some x := ⟨_, List.getElem?_eq_getElem hkL⟩
  have HX := hid hx
  have O2 := hid (row_far O1.out hr2.gr hrlt)
  have G2 := hid (grown_trans G1.out hr2.gr)
  have R2 := hid hr2.rd
  clear hr2 hk hx
  go_wp2_with fail
  (with_reducible refine (pick_any r A cap bs (p1 + 1) _ _ R2.out (by omega) (by omega)).mono ?_)
  rintro e w3 ⟨m, rfl, hm, hr3⟩
  have O3 := hid (row_far O2.out hr3.gr hrlt)
  have G3 := hid (grown_trans G2.out hr3.gr)
  have R3 := hid hr3.rd
  obtain ⟨hc1, hc2⟩ := slice_le O3.out
  clear hr3 hm
  have i1 : (0 : Int) ≤ (k : Int) := by omega
  have i2 : (k : Int) < (L.length : Int) := by omega
  by_cases hm0 : m = 0
  · subst hm0
    go_wp2_with fail
    (with_reducible refine (pick_any r A cap bs (p1 + 1 + 1) _ _ R3.out (by omega) (by omega)).mono ?_)
    rintro e w4 ⟨y, rfl, hy, hr4⟩
    have O4 := hid (row_far O3.out hr4.gr hrlt)
    have G4 := hid (grown_trans G3.out hr4.gr)
    have R4 := hid hr4.rd
    have y1 : IntKind.i64.wrap (y - 1) = y - 1 := IntWalk.i64_in _ (by omega)
    clear hr4 hy
    have OA := hid (OwnA.of_row (enc := encBox) (k := 9) (fun _ => rfl) O4.out)
    obtain ⟨g, off, hA, hgb, hgl, hcell, hfr⟩ := OA.out.at_ HX.out
    have ce0 : w4.cell? ⟨g, off + k * 9, none⟩ = some (.int .i64 x.Parent) := by simpa using hcell 0 _ rfl
    have f0 := hfr (off + k * 9)
    subst hA
    have OS := hid (OA.out.set_ (k := 9) (fun _ => rfl) (j := 0) (y' := { x with Parent := y - 1 }) (v := .int .i64 (y - 1)) HX.out (by omega) rfl)
    have GS := hid (grown_sets G4.out hgb (off + k * 9) (.int .i64 (y - 1)))
    have RS := hid (R4.out.set1 (show r < g by omega) (off + k * 9) (.int .i64 (y - 1)))
    clear hcell hfr
    go_wp2_with fail
    go_ret
    exact ⟨_, c1, L.set k _, by rw [List.length_set]; rfl, by rw [List.length_set]; exact hl16, by rw [List.length_set]; exact hc1, hc2, OS.out.arr, (fun a ha => by injection ha with ha; rw [← ha]; exact hgb), _, RS.out, by omega, GS.out⟩
  · have hn0 : (m == 0) = false := by rw [beq_eq_false_iff_ne]; exact hm0
    by_cases hm1 : m = 1
    · subst hm1
      go_wp2_with fail
      (with_reducible refine (oneLit r A cap bs (p1 + 1 + 1) _ 4 [0, 4, -1, 1] _ _ R3.out (by omega) ?_ ?_ rfl (by omega) (by omega)).mono ?_)
      · rfl
      · rfl
      rintro e w4 ⟨y, rfl, hy, hr4⟩
      have O4 := hid (row_far O3.out hr4.gr hrlt)
      have G4 := hid (grown_trans G3.out hr4.gr)
      have R4 := hid hr4.rd
      clear hr4 hy
      have OA := hid (OwnA.of_row (enc := encBox) (k := 9) (fun _ => rfl) O4.out)
      obtain ⟨g, off, hA, hgb, hgl, hcell, hfr⟩ := OA.out.at_ HX.out
      have ce1 : w4.cell? ⟨g, off + k * 9 + 1, none⟩ = some (.int .i64 x.Kind) := by simpa using hcell 1 _ rfl
      have f1 := hfr (off + k * 9 + 1)
      subst hA
      have OS := hid (OA.out.set_ (k := 9) (fun _ => rfl) (j := 1) (y' := { x with Kind := y }) (v := .int .i64 (y)) HX.out (by omega) rfl)
      have GS := hid (grown_sets G4.out hgb (off + k * 9 + 1) (.int .i64 (y)))
      have RS := hid (R4.out.set1 (show r < g by omega) (off + k * 9 + 1) (.int .i64 (y)))
      clear hcell hfr
      go_wp2_with fail
      go_ret
      exact ⟨_, c1, L.set k _, by rw [List.length_set]; rfl, by rw [List.length_set]; exact hl16, by rw [List.length_set]; exact hc1, hc2, OS.out.arr, (fun a ha => by injection ha with ha; rw [← ha]; exact hgb), _, RS.out, by omega, GS.out⟩
    · have hn1 : (m == 1) = false := by rw [beq_eq_false_iff_ne]; exact hm1
      by_cases hm2 : m = 2
      · subst hm2
        go_wp2_with fail
        (with_reducible refine (oneLit r A cap bs (p1 + 1 + 1) _ 3 [1, 101, -1] _ _ R3.out (by omega) ?_ ?_ rfl (by omega) (by omega)).mono ?_)
        · rfl
        · rfl
        rintro e w4 ⟨y, rfl, hy, hr4⟩
        have O4 := hid (row_far O3.out hr4.gr hrlt)
        have G4 := hid (grown_trans G3.out hr4.gr)
        have R4 := hid hr4.rd
        clear hr4 hy
        have OA := hid (OwnA.of_row (enc := encBox) (k := 9) (fun _ => rfl) O4.out)
        obtain ⟨g, off, hA, hgb, hgl, hcell, hfr⟩ := OA.out.at_ HX.out
        have ce2 : w4.cell? ⟨g, off + k * 9 + 2, none⟩ = some (.int .i64 x.W) := by simpa using hcell 2 _ rfl
        have f2 := hfr (off + k * 9 + 2)
        subst hA
        have OS := hid (OA.out.set_ (k := 9) (fun _ => rfl) (j := 2) (y' := { x with W := y }) (v := .int .i64 (y)) HX.out (by omega) rfl)
        have GS := hid (grown_sets G4.out hgb (off + k * 9 + 2) (.int .i64 (y)))
        have RS := hid (R4.out.set1 (show r < g by omega) (off + k * 9 + 2) (.int .i64 (y)))
        clear hcell hfr
        go_wp2_with fail
        go_ret
        exact ⟨_, c1, L.set k _, by rw [List.length_set]; rfl, by rw [List.length_set]; exact hl16, by rw [List.length_set]; exact hc1, hc2, OS.out.arr, (fun a ha => by injection ha with ha; rw [← ha]; exact hgb), _, RS.out, by omega, GS.out⟩
      · have hn2 : (m == 2) = false := by rw [beq_eq_false_iff_ne]; exact hm2
        by_cases hm3 : m = 3
        · subst hm3
          go_wp2_with fail
          (with_reducible refine (oneLit r A cap bs (p1 + 1 + 1) _ 2 [51, -1] _ _ R3.out (by omega) ?_ ?_ rfl (by omega) (by omega)).mono ?_)
          · rfl
          · rfl
          rintro e w4 ⟨y, rfl, hy, hr4⟩
          have O4 := hid (row_far O3.out hr4.gr hrlt)
          have G4 := hid (grown_trans G3.out hr4.gr)
          have R4 := hid hr4.rd
          clear hr4 hy
          have OA := hid (OwnA.of_row (enc := encBox) (k := 9) (fun _ => rfl) O4.out)
          obtain ⟨g, off, hA, hgb, hgl, hcell, hfr⟩ := OA.out.at_ HX.out
          have ce4 : w4.cell? ⟨g, off + k * 9 + 4, none⟩ = some (.int .i64 x.Pad) := by simpa using hcell 4 _ rfl
          have f4 := hfr (off + k * 9 + 4)
          subst hA
          have OS := hid (OA.out.set_ (k := 9) (fun _ => rfl) (j := 4) (y' := { x with Pad := y }) (v := .int .i64 (y)) HX.out (by omega) rfl)
          have GS := hid (grown_sets G4.out hgb (off + k * 9 + 4) (.int .i64 (y)))
          have RS := hid (R4.out.set1 (show r < g by omega) (off + k * 9 + 4) (.int .i64 (y)))
          clear hcell hfr
          go_wp2_with fail
          go_ret
          exact ⟨_, c1, L.set k _, by rw [List.length_set]; rfl, by rw [List.length_set]; exact hl16, by rw [List.length_set]; exact hc1, hc2, OS.out.arr, (fun a ha => by injection ha with ha; rw [← ha]; exact hgb), _, RS.out, by omega, GS.out⟩
        · have hn3 : (m == 3) = false := by rw [beq_eq_false_iff_ne]; exact hm3
          by_cases hm4 : m = 4
          · subst hm4
            have AR := hid ((row_arrB O3.out).drop hc1 1)
            have l1 : (1 : Int) ≤ (L.length : Int) := by omega
            have l2 : (L.length : Int) ≤ (c1 : Int) := by omega
            have OA := hid (OwnA.of_row (enc := encBox) (k := 9) (fun _ => rfl) O3.out)
            obtain ⟨g, off, hA, hgb, hgl, hcell, hfr⟩ := OA.out.at_ HX.out
            subst hA
            clear hcell hfr hc1 HX
            go_wp2_with fail
            ·
              go_ret
              have A4 := AR.out
              rw [if_pos h] at A4
              exact ⟨_, 0, L.drop 1, by rw [List.length_drop]; rfl, by rw [List.length_drop]; omega, by rw [List.length_drop]; omega, by omega, A4, (fun a ha => by injection ha with ha; rw [← ha]; exact hgb), _, R3.out, by omega, G3.out⟩
            ·
              go_ret
              have A4 := AR.out
              rw [if_neg h] at A4
              exact ⟨some ⟨g, off + 9, none⟩, c1 - 1, L.drop 1, by rw [List.length_drop]; rfl, by rw [List.length_drop]; omega, by rw [List.length_drop]; omega, by omega, by simpa [Addr.add_lit] using A4, (fun a ha => by injection ha with ha; rw [← ha]; exact hgb), _, R3.out, by omega, G3.out⟩
          · have hn4 : (m == 4) = false := by rw [beq_eq_false_iff_ne]; exact hm4
            have HM := hid (And.intro hm0 (And.intro hm1 (And.intro hm2 (And.intro hm3 hm4))))
            clear hm0 hm1 hm2 hm3 hm4
            go_wp2_with fail
            go_ret
            exact ⟨A1, c1, L, rfl, hl16, hc1, hc2, row_arrB O3.out, (fun a ha => (O3.out.lt a.block (by rw [ha]; rfl)).1), _, R3.out, by omega, G3.out⟩
end Go.Proofs.Ytpahljbcffmaaaa
