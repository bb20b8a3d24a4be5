/- FnNextTaskOne: the walk. -/
import Derived.Test.YthppgaglmgnocaaKG
namespace Go.Proofs.Ythppgaglmgnocaa
open Go.RowKit Go.Lib

/-- The same queue with one task that has waited long. -/
theorem one_old {L : List TaskD} (hv : validT L = true) {i : Nat} {x : TaskD} (hx : L[i]? = some x) :
    validT (L.set i ⟨x.Id, 0, 20⟩) = true ∧ 0 < (L.set i (⟨x.Id, 0, 20⟩ : TaskD)).length ∧ 0 ≤ nextV (L.set i ⟨x.Id, 0, 20⟩) ∧ nextV (L.set i ⟨x.Id, 0, 20⟩) ≤ x.Id := by
  obtain ⟨h1, h2, h3⟩ := validT_iff.1 hv
  have hi := (List.getElem?_eq_some_iff.1 hx).1
  have hxk := okT_iff.1 (h2 x (List.mem_of_getElem? hx))
  have hv' : validT (L.set i (⟨x.Id, 0, 20⟩ : TaskD)) = true := by
    refine validT_iff.2 ⟨by simpa using h1, fun t ht => ?_, ascT_at.2 fun j a b ha hb => ?_⟩
    · rcases List.mem_or_eq_of_mem_set ht with h | h
      · exact h2 t h
      · subst h
        exact okT_iff.2 ⟨hxk.1, by simp, by simp⟩
    · rw [List.getElem?_set] at ha hb
      have key := ascT_at.1 h3
      by_cases e1 : i = j
      · subst e1
        rw [if_pos rfl, if_pos hi] at ha
        rw [if_neg (by omega)] at hb
        injection ha with ha
        subst ha
        exact key i x b hx hb
      · rw [if_neg e1] at ha
        by_cases e2 : i = j + 1
        · subst e2
          rw [if_pos rfl, if_pos hi] at hb
          injection hb with hb
          subst hb
          exact key j a x ha hx
        · rw [if_neg e2] at hb
          exact key j a b ha hb
  have hl' : 0 < (L.set i (⟨x.Id, 0, 20⟩ : TaskD)).length := by simpa using (by omega : 0 < L.length)
  have hm : (⟨x.Id, 0, 20⟩ : TaskD) ∈ L.set i ⟨x.Id, 0, 20⟩ := List.mem_of_getElem? (List.getElem?_set_self hi)
  have hle := soonT_no.1 (nextT_least hm)
  have hok := (validT_iff.1 hv').2.1 _ (nextT_mem hl')
  have hkb := key_bd hok
  have hid0 := (okT_iff.1 hok).1
  rw [nextV_of hv' hl']
  have hk0 : keyT (⟨x.Id, 0, 20⟩ : TaskD) = -80 := rfl
  rw [hk0] at hle
  refine ⟨hv', hl', hid0.1, ?_⟩
  have : (⟨x.Id, 0, 20⟩ : TaskD).Id = x.Id := rfl
  omega
theorem one_only {x : TaskD} (h : okT x = true) : nextV [x] = x.Id := by
  have hv : validT [x] = true := validT_iff.2 ⟨by simp, fun t ht => by simp at ht; rw [ht]; exact h, rfl⟩
  rw [nextV_of hv (by simp)]
  rfl

/-- One element of a list that lies in memory. -/
theorem Arr.one {α : Type} {w : World} {B k b off : Nat} {enc : α → List Value} {L : List α} (h : Arr w B k enc (some ⟨b, off, none⟩) L) {i : Nat} {x : α} (hx : L[i]? = some x) : Arr w B k enc (some ⟨b, off + i * k, none⟩) [x] := fun _ => by
  obtain ⟨b', off', e, hb, hc⟩ := h.at_ hx
  injection e with e
  injection e with e1 e2
  subst e1 e2
  refine ⟨b, off + i * k, rfl, hb, fun j y hj m v hv => ?_⟩
  cases j with
  | zero =>
    simp at hj
    subst hj
    simpa using hc m v hv
  | succ j => simp at hj

set_option maxRecDepth 100000 in
set_option maxHeartbeats 1000000 in
theorem fnNextTaskOne_any (A : Option Addr) (cap : Nat) (bs : List Int) (w : World) (h : Code w A cap bs) :
    Calls Try.prog 6 #[.slice A bs.length cap] w (Yes w) := by
  have hcap := h.cap1
  have hcap2 := h.cap2
  by_cases hbig : 1048576 < bs.length
  · clear h
    go_enter Try.func6, Try.ntmps6
    go_wp2
    go_ret
    exact ⟨rfl, Below.refl _ _⟩
  · have hd := drawNextTask_any A cap bs w h
    clear h
    go_enter Try.func6, Try.ntmps6
    go_wp2_with fail
    refine hd.mono ?_
    rintro e w1 ⟨A3, c3, L, rfl, hL, hc1, hc2, o3, b1⟩
    have B1 := hid b1
    have H1 := hid (row_arr o3)
    have HI := hid (fun w h => nextTask_any A3 L c3 w (by omega) h)
    have HS := hid (fun w h => specNextTask_any A3 L c3 w (by omega) h)
    have HF := hid (fun h => nextV_some (L := L) h)
    generalize hnv : nextV L = nv at *
    have hne : (nv != nv) = false := by simp
    have heq : (nv == nv) = true := by simp
    clear b1 o3 hd hnv
    go_wp2_with fail
    refine (HI.out _ H1.out).mono ?_
    rintro e w2 ⟨rfl, b2⟩
    have B2 := hid (chain B1.out b2)
    have H2 := hid (H1.out.next b2)
    clear b2
    go_wp2_with fail
    refine (HS.out _ H2.out).mono ?_
    rintro e w3 ⟨rfl, b3⟩
    have B3 := hid (chain B2.out b3)
    have H3 := hid (H2.out.next b3)
    clear b3
    by_cases hneg : nv < 0
    · go_wp2_with fail
      refine (HS.out _ H3.out).mono ?_
      rintro e w4 ⟨rfl, b4⟩
      have B4 := hid (chain B3.out b4)
      clear b4
      go_wp2
      go_ret
      exact ⟨rfl, B4.out⟩
    · obtain ⟨hv, hl, -⟩ := HF.out (by omega)
      have HV := hid hv
      have HOK := hid (validT_iff.1 hv).2.1
      clear hv HF
      go_wp2
      go_loopg [5] L.length (fun gg s5 wr => ∃ (i : Nat), i ≤ L.length ∧ L.length - i ≤ gg ∧ s5 = .int .i64 i ∧ Aside (Below w3.heap.size w3 wr))
      case atStart => exact ⟨0, Nat.zero_le _, by omega, rfl, Below.refl _ _⟩
      case round =>
        obtain ⟨i, hi, hgg, rfl, R⟩ := hrel
        by_cases hlt : i < L.length
        · obtain ⟨p, off, x, rfl, hp, hx, d1, d2, d3⟩ := (H3.out.below R.out).atTask hlt
          have HX := hid hx
          have hsz := R.out.size
          have hpw : p < wr.heap.size := by omega
          have HR := hid (H3.out.below R.out)
          obtain ⟨o1, o2, o3, o4⟩ := one_old HV.out hx
          have HKN := hid (fun A c W h => nextTask_any A (L.set i (⟨x.Id, 0, 20⟩ : TaskD)) c W (by rw [List.length_set]; omega) h)
          generalize nextV (L.set i (⟨x.Id, 0, 20⟩ : TaskD)) = kv at *
          have HKO := hid (show ∀ W, Arr W W.heap.size 3 encTask (some ⟨p, off + i * 3, none⟩) [x] → Calls Try.prog 18 #[.slice (some ⟨p, off + i * 3, none⟩) 1 (c3 - i)] W fun e w' => e = .returned (.int .i64 (nextV [x])) ∧ Below W.heap.size W w' from fun W h => nextTask_any _ [x] (c3 - i) W (by simp) h)
          rw [one_only (HOK.out x (List.mem_of_getElem? hx))] at HKO
          rw [List.length_set] at HKN
          clear hx o1 o2
          have hc3i : ¬ c3 = i := by omega
          have i1 : (0 : Int) ≤ (i : Int) := by omega
          have i2 : (i : Int) < (L.length : Int) := by omega
          have i3 : (i : Int) ≤ (c3 : Int) := by omega
          have i4 : (i : Int) + 1 ≤ (c3 : Int) := by omega
          have i5 : IntKind.i64.wrap ((i : Int) + 1) = (i : Int) + 1 := IntWalk.i64_in _ (by omega)
          have i6 : (0 : Int) ≤ (i : Int) + 1 := by omega
          have i7 : ((i : Int) + 1).toNat = i + 1 := by omega
          have hk3 : ¬ kv > x.Id := by omega
          have hk4 : ¬ kv < 0 := by omega
          have hk5 : decide (kv > x.Id) = false := by simp; omega
          have hk6 : decide (x.Id < kv) = false := by simp; omega
          have hk7 : decide (kv < 0) = false := by simp; omega
          have BA := hid (R.out.alloc hsz (.cells #[] 31))
          have HS6 : ∀ (A6 : Option Addr) (c6 : Nat) (w6 : World), w6.ownsRow wr.heap.size 31 3 (.slice A6 L.length c6) L.length ([] ++ L.flatMap encTask) → (wr.alloc (.cells #[] 31)).grownBy w6 (Value.slice (some ⟨wr.heap.size, 0, none⟩) 0 0).ownBlock →
              ∃ g, A6 = some ⟨g, 0, none⟩ ∧ wr.heap.size ≤ g ∧ w6.cell? ⟨g, i * 3 + 1, none⟩ = some (.int .i64 x.Rank) ∧ w6.cell? ⟨g, i * 3 + 2, none⟩ = some (.int .i64 x.Age) ∧ w6.frozen? ⟨g, i * 3 + 1, none⟩ = false ∧ w6.frozen? ⟨g, i * 3 + 2, none⟩ = false ∧
                Arr ((w6.setCell ⟨g, i * 3 + 1, none⟩ (.int .i64 0)).setCell ⟨g, i * 3 + 2, none⟩ (.int .i64 20)) ((w6.setCell ⟨g, i * 3 + 1, none⟩ (.int .i64 0)).setCell ⟨g, i * 3 + 2, none⟩ (.int .i64 20)).heap.size 3 encTask (some ⟨g, 0, none⟩) (L.set i ⟨x.Id, 0, 20⟩) ∧
                Below w3.heap.size w3 ((w6.setCell ⟨g, i * 3 + 1, none⟩ (.int .i64 0)).setCell ⟨g, i * 3 + 2, none⟩ (.int .i64 20)) := by
            intro A6 c6 w6 own gr
            have hg6 : Below w3.heap.size w3 w6 := BA.out.grown gr (Nat.le_trans hsz (by simp)) (fun q hq => by simp [Value.ownBlock] at hq; omega)
            have ow := own
            rw [List.nil_append] at ow
            rcases ow.2 with ⟨h', h0⟩ | ⟨g, cap, cur, h', hb, hg, _, _, _, ht⟩
            · omega
            · injection h' with h1 _ _
              subst h1
              have oa := OwnA.of_row (enc := encTask) (k := 3) (fun _ => rfl) ow
              obtain ⟨g', off', e, hgb, hg2, hc, hf⟩ := oa.at_ HX.out
              injection e with e
              injection e with e1 e2
              subst e1 e2
              have S1 := oa.set_ (k := 3) (fun _ => rfl) (j := 1) (y' := (⟨x.Id, 0, x.Age⟩ : TaskD)) (v := .int .i64 0) HX.out (by omega) rfl
              have S2 := S1.set_ (k := 3) (fun _ => rfl) (j := 2) (y' := (⟨x.Id, 0, 20⟩ : TaskD)) (v := .int .i64 20) (List.getElem?_set_self hlt) (by omega) rfl
              rw [List.set_set] at S2
              simp only [Nat.zero_add] at S2 hc
              refine ⟨_, rfl, hgb, by simpa using hc 1 _ rfl, by simpa using hc 2 _ rfl, hf _, hf _, S2.arr, (hg6.setCell (p := ⟨_, _, none⟩) (Nat.le_trans hsz hgb) _).setCell (p := ⟨_, _, none⟩) (Nat.le_trans hsz hgb) _⟩
          have HSS := hid HS6
          clear HS6
          go_wp2_with (at_builtin; refine wpList_append_arr _ eltTaskK rfl (.tmp 33) (.tmp 34) rfl wr.heap.size _ 0 L.length [] rfl (World.ownsRow_made wr #[] 0 (Nat.le_refl _) (by simp [maxLen]) rfl) encTask (fun _ => rfl) oneTask w3.heap.size _ L L.length c3 rfl rfl (HR.out.below ((Below.refl _ _).alloc hsz _)) (by omega) (by omega) (by simp) ?_; intro A6 c6 w6 own6 gr6 at6; obtain ⟨g, rfl, hg, e1, e2, f1, f2, ar, bw⟩ := HSS.out A6 c6 w6 own6 gr6; have AR := hid ar; have BW := hid bw; clear own6 gr6 at6 ar bw)
          refine (HKN.out _ _ _ AR.out).mono ?_
          rintro e w7 ⟨rfl, b7⟩
          have B7 := hid (BW.out.trans (b7.mono BW.out.size))
          obtain ⟨x', hx', -, m1, m2, m3⟩ := (H3.out.below B7.out).litTask hlt
          have ex := hx'.symm.trans HX.out
          injection ex with ex
          subst ex
          have hs7 := B7.out.size
          have hpw7 : p < w7.heap.size := by omega
          have HK7 := hid (HKO.out w7.drew (show Arr w7 w7.heap.size 3 encTask _ _ from ((H3.out.below B7.out).one HX.out).more hs7))
          clear b7 hx' m2 m3
          go_wp2_with fail
          go_region_held3 (fun w' => w'.cell? ⟨p, off + i * 3, none⟩ = some (.int .i64 x'.Id)) (go_keep)
            (((with_reducible refine HK7.out.mono ?_); rintro e w8 ⟨rfl, b8⟩; have k1 := (b8.cell (p := ⟨p, off + i * 3, none⟩) hpw7).trans m1; have B8 := hid (show Below w7.heap.size w7 w8 from below_undrew b8); clear b8; dsimp only))
          go_wp2
          go_roundg (L.length - (i + 1))
          case measure => omega
          case rel => exact ⟨i + 1, by omega, by omega, by go_num, B7.out.trans (B8.out.mono hs7)⟩
        · go_wp2
          go_ret
          exact ⟨rfl, chain B3.out R.out⟩
end Go.Proofs.Ythppgaglmgnocaa
