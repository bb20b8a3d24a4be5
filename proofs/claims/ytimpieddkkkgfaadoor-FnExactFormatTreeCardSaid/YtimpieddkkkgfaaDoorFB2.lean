/- Strings put together; spec.decimal. -/
import Derived.Test.YtimpieddkkkgfaaDoorProg
import Derived.Test.YtimpieddkkkgfaaDoorFB1
import Derived.Laws.IdiomStrings
import Derived.Laws.Concat
import Derived.Deep.QuietTactic
import Derived.BigQuiet
import Derived.Deep.RegionHeld3
import Derived.IntWalk
namespace Go.Proofs.YtimpieddkkkgfaaDoor
set_option linter.unusedVariables false
set_option linter.unusedSimpArgs false
open Go.RowKit Go.Lib

theorem cat_run {P : Program} (a b : ByteArray) (h : (bl a).length + (bl b).length ≤ 9223372036854775807) : ∃ t : ByteArray, Hid (bl t = bl a ++ bl b) ∧ ∀ W, (Op.stringOp .add a b).run P W = .ok (.string t) W :=
  ⟨a ++ b, hid (bl_add a b), fun W => run_string_add_sum W a b h⟩

/-- What decimal leaves. -/
def Texted (l : List UInt8) (w : World) (e : Ending) (w' : World) : Prop := ∃ s : ByteArray, e = .returned (.string s) ∧ bl s = l ∧ Below w.heap.size w w'

/-- The digit of a number. -/
def digS (n : Int) : ByteArray := ⟨[UInt8.ofNat (48 + n.toNat)].toArray⟩
theorem digS_bl (n : Int) : bl (digS n) = [UInt8.ofNat (48 + n.toNat)] := rfl
theorem conv_at {n : Int} (h0 : 0 ≤ n) (h1 : n < 10) {W : World} {g : Nat} {t : TypeId} (hg : W.heap[g]? = some (.cells #[.int .u8 (48 + n)] t (0, 0))) :
    (convert 53 9 (.slice (some ⟨g, 0, none⟩) 1 1)).run Tryd.prog W = .ok (.string (digS n)) W := by
  refine run_convert_bytes_back (P := Tryd.prog) W 53 9 5 ⟨g, 0, none⟩ 1 [UInt8.ofNat (48 + n.toNat)] Tryd.underlying53 Tryd.underlying5 Tryd.underlying9 fun j hj => ?_
  have hj0 : j = 0 := by simp at hj; omega
  subst hj0
  rw [Addr.add_lit, cell_of_row W g _ _ _ _ hg]
  have e : ((UInt8.ofNat (48 + n.toNat)).toNat : Int) = 48 + n := by
    rw [UInt8.toNat_ofNat']
    have : (48 + n.toNat) % 2 ^ 8 = 48 + n.toNat := Nat.mod_eq_of_lt (by omega)
    rw [this]
    omega
  simp only [List.getElem_cons_zero, e]
  rfl
theorem conv_new {n : Int} (h0 : 0 ≤ n) (h1 : n < 10) (W : World) : (convert 53 9 (.slice (some ⟨W.heap.size, 0, none⟩) 1 1)).run Tryd.prog (W.alloc (.cells #[.int .u8 (48 + n)] 5)) = .ok (.string (digS n)) (W.alloc (.cells #[.int .u8 (48 + n)] 5)) :=
  conv_at h0 h1 (heap_alloc_new W _)
theorem conv_kept {n : Int} (h0 : 0 ≤ n) (h1 : n < 10) {W w2 : World} (hb : Below (W.alloc (.cells #[.int .u8 (48 + n)] 5)).heap.size (W.alloc (.cells #[.int .u8 (48 + n)] 5)) w2) : (convert 53 9 (.slice (some ⟨W.heap.size, 0, none⟩) 1 1)).run Tryd.prog w2 = .ok (.string (digS n)) w2 :=
  conv_at h0 h1 ((hb.block W.heap.size (by simp)).trans (heap_alloc_new W _))
theorem decL_small {n : Int} (h0 : 0 ≤ n) (h1 : n < 10) : decL n = [UInt8.ofNat (48 + n.toNat)] := by
  unfold decL
  rw [Lib.decDigits, dif_pos (by omega)]
theorem decL_step {n : Int} (h1 : 10 ≤ n) : decL n = decL (n / 10) ++ [UInt8.ofNat (48 + (n % 10).toNat)] := by
  unfold decL
  rw [Lib.decDigits, dif_neg (by omega)]
  have e1 : (n / 10).toNat = n.toNat / 10 := by omega
  have e2 : (n % 10).toNat = n.toNat % 10 := by omega
  rw [e1, e2]

set_option maxHeartbeats 1000000 in
theorem decimal_small (n : Int) (w : World) (h0 : 0 ≤ n) (h1 : n < 10) :
    Calls Tryd.prog 23 #[.int .i64 n] w (Texted (decL n) w) := by
  have hcv := conv_new h0 h1 w
  have hbl := digS_bl n
  rw [← decL_small h0 h1] at hbl
  have HB := hid hbl
  clear hbl
  generalize digS n = d at *
  go_enter Tryd.func23, Tryd.ntmps23
  go_wp2
  go_ret
  exact ⟨d, rfl, HB.out, (Below.refl _ _).alloc (Nat.le_refl _) _⟩

theorem Below_of_drew {w w2 : World} (h : Below w.drew.heap.size w.drew w2) : Below w.heap.size w w2 := ⟨h.os, h.tape, h.output, h.size, h.block⟩
theorem Below_of_drewA {w w2 : World} {o : Obj} (h : Below (w.drew.alloc o).heap.size (w.drew.alloc o) w2) : Below w.heap.size w w2 :=
  (show Below w.heap.size w (w.drew.alloc o) from (Below.refl w.heap.size w).drew.alloc (Nat.le_refl _) o).trans (h.mono (by simp))
set_option maxHeartbeats 2000000 in
theorem decimal_step (n : Int) (w : World) (h1 : 10 ≤ n) (h2 : n ≤ 100000) (ih : ∀ W, Calls Tryd.prog 23 #[.int .i64 (n / 10)] W (Texted (decL (n / 10)) W)) :
    Calls Tryd.prog 23 #[.int .i64 n] w (Texted (decL n) w) := by
  have q0 : 0 ≤ n % 10 := by omega
  have q1 : n % 10 < 10 := by omega
  have q2 : 0 ≤ n / 10 := by omega
  have q3 : n / 10 ≤ 100000 := by omega
  have e1 : n.tdiv 10 = n / 10 := Int.tdiv_eq_ediv_of_nonneg (by omega)
  have e2 : IntKind.i64.wrap (n / 10) = n / 10 := IntWalk.i64_in _ (by omega)
  have e3 : n.tmod 10 = n % 10 := Int.tmod_eq_emod_of_nonneg (by omega)
  have e4 : IntKind.i64.wrap (48 + n % 10) = 48 + n % 10 := IntWalk.i64_in _ (by omega)
  have e5 : IntKind.u8.wrap (48 + n % 10) = 48 + n % 10 := by
    rw [IntKind.wrap_u8]
    omega
  have hcv := fun W => conv_new q0 q1 W
  have hcv2 : ∀ W : World, (convert 53 9 (.slice (some ⟨W.heap.size, 0, none⟩) 1 1)).run Tryd.prog (W.alloc (.cells #[.int .u8 (48 + n % 10)] 5)).drew = .ok (.string (digS (n % 10))) (W.alloc (.cells #[.int .u8 (48 + n % 10)] 5)).drew := fun W => conv_at q0 q1 (W := (W.alloc (.cells #[.int .u8 (48 + n % 10)] 5)).drew) (heap_alloc_new W _)
  have CK := hid (fun W w2 hb => conv_kept (W := W) (w2 := w2) q0 q1 hb)
  have hst := decL_step h1
  have hlen := (decDigits_le (n / 10).toNat (n / 10).toNat (Nat.le_refl _)).2
  have HL := hid (show (decL (n / 10)).length ≤ 100001 by unfold decL; omega)
  rw [← digS_bl] at hst
  have HST := hid hst
  have HD := hid (show (bl (digS (n % 10))).length = 1 from rfl)
  have IH := hid ih
  clear hst hlen ih
  generalize decL (n / 10) = l at *
  generalize decL n = l2 at *
  generalize digS (n % 10) = d at *
  generalize n / 10 = q at *
  generalize n % 10 = r at *
  go_enter Tryd.func23, Tryd.ntmps23
  go_wp2_with fail
  go_region_with
    ((first
      | ((with_reducible refine (IH.out _).mono ?_); rintro e w2 ⟨s2, rfl, hs2, hb2⟩; have k2 : (convert 53 9 (.slice (some ⟨w.heap.size, 0, none⟩) 1 1)).run Tryd.prog w2 = .ok (.string d) w2 := CK.out w.drew w2 hb2; have HW := hid (Below_of_drewA hb2); obtain ⟨t2, T2, a2⟩ := cat_run (P := Tryd.prog) s2 d (by rw [hs2, HD.out]; have := HL.out; omega); have HS2 := hid hs2; clear hs2 hb2; dsimp only)
      | ((with_reducible refine (IH.out _).mono ?_); rintro e w2 ⟨s2, rfl, hs2, hb2⟩; have HW := hid (Below_of_drew hb2); obtain ⟨t2, T2, a2⟩ := cat_run (P := Tryd.prog) s2 d (by rw [hs2, HD.out]; have := HL.out; omega); have HS2 := hid hs2; clear hs2 hb2; dsimp only)))
  all_goals
    go_wp2
    go_ret
    refine ⟨t2, rfl, by rw [T2.out, HS2.out]; exact HST.out.symm, ?_⟩
    first | exact HW.out | exact HW.out.alloc HW.out.size _ | exact (HW.out.alloc HW.out.size _).drew | exact (HW.out.drew.alloc HW.out.size _)
theorem decimal_any (n : Int) (w : World) (h0 : 0 ≤ n) (h1 : n ≤ 100) : Calls Tryd.prog 23 #[.int .i64 n] w (Texted (decL n) w) := by
  by_cases a : n < 10
  · exact decimal_small n w h0 a
  · refine decimal_step n w (by omega) (by omega) fun W => ?_
    by_cases b : n / 10 < 10
    · exact decimal_small _ W (by omega) b
    · exact decimal_step _ W (by omega) (by omega) fun W => decimal_small _ W (by omega) (by omega)
end Go.Proofs.YtimpieddkkkgfaaDoor
