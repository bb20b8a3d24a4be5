/- What is around a box, and directly in it: impl.path, kids, around, count. -/
import Derived.Test.YtimpieddkkkgfaaDoorB5
namespace Go.Proofs.YtimpieddkkkgfaaDoor
set_option linter.unusedVariables false
set_option linter.unusedSimpArgs false
open Go.RowKit Go.Lib

/-- What is still to come of a path. -/
def restUp (T : List BoxD) (p : Int) : List Nat := if 0 ≤ p then up T p.toNat else []
theorem restUp_step {T : List BoxD} {n q : Nat} (h : Desc T n) (hq : q < n) : restUp T (q : Int) = q :: restUp T (par T q) := by
  unfold restUp
  rw [if_pos (by omega), Int.toNat_natCast]
  rcases Nat.eq_zero_or_pos q with rfl | h0
  · rw [up_zero h hq, if_neg (by have := (h 0 hq).1 rfl; omega)]
  · rw [up_next h hq h0, if_pos (by have := (h q hq).2 h0; omega)]
theorem restUp_end {T : List BoxD} {p : Int} (hp : p < 0) : restUp T p = [] := by unfold restUp; rw [if_neg (by omega)]
theorem par_bd {T : List BoxD} {n q : Nat} (h : Desc T n) (hq : q < n) : -1 ≤ par T q ∧ par T q < (q : Int) := by
  rcases Nat.eq_zero_or_pos q with rfl | h0
  · have := (h 0 hq).1 rfl; omega
  · have := (h q hq).2 h0; omega
theorem flat_asI_snoc (l : List Nat) (q : Nat) : (asI (l ++ [q])).flatMap encI = (asI l).flatMap encI ++ encI (q : Int) := by
  rw [asI_append, List.flatMap_append]
  simp [asI]
/-- The loop's relation. -/
def PathRel (w : World) (T : List BoxD) (at_ : Nat) (p : Int) (A5 : Option Addr) (n5 c5 : Nat) (wr : World) : Prop :=
  ∃ pre : List Nat, up T at_ = pre ++ restUp T p ∧ n5 = pre.length ∧ wr.ownsRow w.heap.size 3 1 (.slice A5 n5 c5) n5 ((asI pre).flatMap encI) ∧ Below w.heap.size w wr

set_option maxHeartbeats 4000000 in
theorem path_any (A : Option Addr) (T : List BoxD) (c at_ : Nat) (w : World) (hL : T.length ≤ 1048576) (ha : at_ < T.length) (h100 : at_ ≤ 100) (hd : Desc T (at_ + 1)) (h : Arr w w.heap.size 9 encBox A T) :
    Calls Tryd.prog 15 #[.slice A T.length c, .int .i64 at_] w (Gives 1 encI (asI (pathOf T at_)) w) := by
  have H := hid h
  have HD := hid hd
  have R0 : Aside (PathRel w T at_ at_ (some ⟨w.heap.size, 0, none⟩) 0 0 (w.alloc (.cells #[] 3))) :=
    ⟨[], by unfold restUp; rw [if_pos (by omega)]; rfl, rfl, World.ownsRow_made w #[] 0 (Nat.le_refl _) (by simp [maxLen]) rfl, below_al (Below.refl _ _) rfl _⟩
  clear h hd
  go_enter Tryd.func15, Tryd.ntmps15
  go_wp2
  go_loopg [1, 5] 200 (fun gg s1 s5 wr => ∃ (p : Int) (n5 c5 : Nat) (A5 : Option Addr), -1 ≤ p ∧ p ≤ (at_ : Int) ∧ (p + 1).toNat ≤ gg ∧ (n5 : Int) + p ≤ (at_ : Int) ∧ s1 = .int .i64 p ∧ s5 = .slice A5 n5 c5 ∧ Aside (PathRel w T at_ p A5 n5 c5 wr))
  case atStart => exact ⟨at_, 0, 0, _, by omega, by omega, by omega, by omega, rfl, rfl, R0⟩
  case round =>
    obtain ⟨p, n5, c5, A5, hp0, hp1, hgg, hnp, rfl, rfl, R⟩ := hrel
    clear R0
    obtain ⟨pre, hup, hn5, hown, hbl⟩ := R.out
    have HU := hid hup
    have HN := hid hn5
    have HO := hid hown
    have HB := hid hbl
    have hsz := hbl.size
    clear R hup hn5 hown hbl
    by_cases hlt : 0 ≤ p
    · obtain ⟨q, rfl⟩ : ∃ q : Nat, p = q := ⟨p.toNat, by omega⟩
      have hn : n5 ≤ 1000000 := by omega
      have hqa : q < at_ + 1 := by omega
      obtain ⟨hb0, hb1⟩ := par_bd HD.out hqa
      have hstep := restUp_step HD.out hqa
      have HST := hid hstep
      clear hstep
      go_wp2_with (at_builtin; refine wpList_push eltIntB rfl (.tmp 14) (.tmp 16) rfl w.heap.size _ n5 _ HO.out hn hsz _ _ rfl rfl rfl rfl (oc1 _) ?_; intro A8 c8 w8 own8 gr8 at8; have O8 := hid own8; have HB8 := hid (HB.out.grown gr8 hsz (fun g hg => (HO.out.lt g hg).1)); clear own8 gr8 at8; obtain ⟨b, off, x, rfl, hb, hx, d1, -⟩ := (H.out.below HB8.out).atBox (show q < T.length by omega); have hxp := par_of hx; rw [hxp] at hb0 hb1 HST; have i1 : (q : Int) < (T.length : Int) := (by omega); have i2 : q < T.length := (by omega); clear hx hxp)
      go_roundg (x.Parent + 1).toNat
      case measure => omega
      case rel =>
        refine ⟨x.Parent, n5 + 1, c8, A8, by omega, by omega, by omega, by omega, rfl, rfl, pre ++ [q], ?_, ?_, ?_, HB8.out⟩
        · rw [HU.out, HST.out]; simp
        · rw [HN.out]; simp
        · rw [flat_asI_snoc]; exact O8.out
    · have hr := restUp_end (T := T) (p := p) (by omega)
      have hn' : n5 = (asI pre).length := by rw [asI_len]; exact HN.out
      have hpath : (asI pre).reverse = asI (pathOf T at_) := by
        unfold pathOf asI
        rw [HU.out, hr, List.append_nil, List.map_reverse]
      have HPATH := hid hpath
      have HN' := hid hn'
      have hl : (asI pre).length ≤ 1000 := by omega
      obtain ⟨hic1, hic2⟩ := slice_le HO.out
      have ho := OwnA.of_rowN (enc := encI) (k := 1) (fun _ => rfl) hn' rfl HO.out
      have hc := reverseInt_any A5 (asI pre) c5 w.heap.size wr (by omega) ho
      rw [← hn', HPATH.out] at hc
      have HC := hid hc
      have hnn : n5 = (asI (pathOf T at_)).length := by rw [← hpath, List.length_reverse]; exact hn'
      have HNN := hid hnn
      clear hr hn' hpath ho hc hl hnn
      go_wp2_with fail
      refine HC.out.mono ?_
      rintro e w2 ⟨rfl, o2, i2⟩
      have O2 := hid o2
      have B2 := hid (i2.below HB.out (Nat.le_refl _) hsz)
      clear o2 i2
      go_wp2_with fail
      refine (clipInt_any A5 n5 c5 _ hic1).mono ?_
      rintro e w3 ⟨rfl, rfl⟩
      go_wp2
      go_ret
      exact ⟨A5, n5, by rw [← HNN.out]; rfl, by rw [← HNN.out]; exact Nat.le_refl _, by omega, O2.out, B2.out⟩

/-- The loop's relation. -/
def KidsRel (w : World) (T : List BoxD) (at_ i : Nat) (A5 : Option Addr) (n5 c5 : Nat) (wr : World) : Prop :=
  n5 = (kidsN T i at_).length ∧ wr.ownsRow w.heap.size 3 1 (.slice A5 n5 c5) n5 ((asI (kidsN T i at_)).flatMap encI) ∧ Below w.heap.size w wr

set_option maxHeartbeats 4000000 in
theorem kids_any (A : Option Addr) (T : List BoxD) (c at_ : Nat) (w : World) (hL : T.length ≤ 100000) (h : Arr w w.heap.size 9 encBox A T) :
    Calls Tryd.prog 27 #[.slice A T.length c, .int .i64 at_] w (Gives 1 encI (asI (kidsN T T.length at_)) w) := by
  have H := hid h
  have R0 : Aside (KidsRel w T at_ 0 (some ⟨w.heap.size, 0, none⟩) 0 0 (w.alloc (.cells #[] 3))) :=
    ⟨rfl, World.ownsRow_made w #[] 0 (Nat.le_refl _) (by simp [maxLen]) rfl, below_al (Below.refl _ _) rfl _⟩
  clear h
  go_enter Tryd.func27, Tryd.ntmps27
  go_wp2
  go_loopg [5, 11] T.length (fun gg s5 s11 wr => ∃ (i n5 c5 : Nat) (A5 : Option Addr), i ≤ T.length ∧ T.length - i ≤ gg ∧ s5 = .slice A5 n5 c5 ∧ s11 = .int .i64 i ∧ Aside (KidsRel w T at_ i A5 n5 c5 wr))
  case atStart => exact ⟨0, 0, 0, _, Nat.zero_le _, by omega, rfl, rfl, R0⟩
  case round =>
    obtain ⟨i, n5, c5, A5, hi, hgg, rfl, rfl, R⟩ := hrel
    clear R0
    obtain ⟨hn5, hown, hbl⟩ := R.out
    have hle := kids_len_le T i at_
    rw [← hn5] at hle
    have HN := hid hn5
    have HO := hid hown
    have HB := hid hbl
    have hsz := hbl.size
    have hn : n5 ≤ 1000000 := by omega
    clear R hn5 hown hbl
    by_cases hlt : i < T.length
    · obtain ⟨b, off, x, rfl, hb, hx, d1, d2, d3, d4, d5, d6, d7, d8, d9⟩ := (H.out.below HB.out).atBox hlt
      have hnext := kidsN_next T i at_
      rw [par_of hx] at hnext
      clear hx
      by_cases hp : x.Parent = (at_ : Int)
      · have hb2 : (x.Parent == (at_ : Int)) = true := by rw [beq_iff_eq]; exact hp
        rw [hb2, if_pos rfl] at hnext
        have HNX := hid hnext
        clear hnext hp
        go_wp2_with (at_builtin; refine wpList_push eltIntB rfl (.tmp 20) (.tmp 22) rfl w.heap.size _ n5 _ (HO.out.alloc _) hn (Nat.le_trans hsz (by simp)) _ _ rfl rfl (by simp) rfl (oc1 _) ?_; intro A8 c8 w8 own8 gr8 at8)
        have O8 := hid own8
        have HB8 := hid ((HB.out.alloc hsz (.cells #[.int .i64 x.Parent, .int .i64 x.Kind, .int .i64 x.W, .int .i64 x.H, .int .i64 x.Pad, .int .i64 x.Gap, .int .i64 x.Grow, .int .i64 x.Shrink, .int .i64 x.Justify] 33)).grown gr8 (Nat.le_trans hsz (by simp)) (fun q hq => (HO.out.lt q hq).1))
        clear own8 gr8 at8
        go_wp2
        go_roundg (T.length - (i + 1))
        case measure => omega
        case rel => exact ⟨i + 1, n5 + 1, c8, A8, by omega, by omega, rfl, by go_num, by rw [HNX.out, HN.out]; simp, by rw [HNX.out, flat_asI_snoc]; exact O8.out, HB8.out⟩
      · have hb2 : (x.Parent == (at_ : Int)) = false := by rw [beq_eq_false_iff_ne]; exact hp
        rw [hb2, if_neg (by simp), List.append_nil] at hnext
        have HNX := hid hnext
        clear hnext hp
        go_wp2
        go_roundg (T.length - (i + 1))
        case measure => omega
        case rel => exact ⟨i + 1, n5, c5, A5, by omega, by omega, rfl, by go_num, by rw [HNX.out]; exact HN.out, by rw [HNX.out]; exact HO.out.alloc _, HB.out.alloc hsz _⟩
    · have hil : i = T.length := by omega
      subst hil
      obtain ⟨hic1, hic2⟩ := slice_le HO.out
      go_wp2_with fail
      refine (clipInt_any A5 n5 c5 _ hic1).mono ?_
      rintro e w3 ⟨rfl, rfl⟩
      go_wp2
      go_ret
      have hn' : n5 = (asI (kidsN T T.length at_)).length := by rw [asI_len]; exact HN.out
      refine ⟨A5, n5, by rw [← hn']; rfl, by rw [← hn']; exact Nat.le_refl _, by omega, ?_, HB.out⟩
      exact OwnA.of_rowN (enc := encI) (k := 1) (fun _ => rfl) hn' rfl HO.out

theorem path_has (T : List BoxD) (at_ i : Nat) : (asI (pathOf T i)).contains (at_ : Int) = aroundB T at_ i := by
  rw [Bool.eq_iff_iff, List.contains_iff_mem, asI_mem, mem_path, aroundB_iff]
theorem path_short {T : List BoxD} {n i : Nat} (h : Desc T n) (hi : i < n) : (asI (pathOf T i)).length ≤ i + 1 := by
  rw [asI_len, path_len]; exact up_len_le h i hi

theorem countN_le (T : List BoxD) (at_ : Nat) : ∀ m, countN T m at_ ≤ m
  | 0 => Nat.le_refl _
  | m + 1 => by
    rw [countN_next]
    have := countN_le T at_ m
    split <;> omega

end Go.Proofs.YtimpieddkkkgfaaDoor
