/- The next task: cmp.Compare, cmp.Or, slices.MinFunc, impl.next, impl.NextTask. -/
import Derived.Test.YthppgaglmgnocaaK2
import Derived.Deep.RegionHeld3
import Derived.Deep.DrawnRows
import Derived.IntWalk
namespace Go.Proofs.Ythppgaglmgnocaa
set_option linter.unusedVariables false
set_option linter.unusedSimpArgs false
open Go.RowKit Go.Lib
attribute [local go_sem ↓] Go.wp_at_zero Go.wp_at_succ

def cmpI (a b : Int) : Int := if a < b then -1 else if b < a then 1 else 0
def orI : List Int → Int
  | [] => 0
  | x :: L => if x = 0 then orI L else x
def cmpT (a b : TaskD) : Int := orI [cmpI (keyT a) (keyT b), cmpI a.Id b.Id]
theorem cmpI_bd (a b : Int) : -1 ≤ cmpI a b ∧ cmpI a b ≤ 1 := by
  unfold cmpI
  split
  · omega
  · split <;> omega
theorem cmpT_soon (a b : TaskD) : decide (cmpT a b < 0) = soonT a b := by
  unfold cmpT soonT
  rw [Bool.eq_iff_iff, decide_eq_true_eq, decide_eq_true_eq]
  unfold orI orI orI cmpI
  split <;> split <;> omega

theorem isNaN_any (a : Int) (w : World) : Calls Try.prog 57 #[.int .i64 a] w fun e w' => e = .returned (.bool false) ∧ w' = w := by
  have h : (a != a) = false := by simp
  go_enter Try.func57, Try.ntmps57
  go_wp2
  go_ret
  exact ⟨rfl, rfl⟩
set_option maxHeartbeats 1000000 in
theorem compare_any (a b : Int) (w : World) : Calls Try.prog 45 #[.int .i64 a, .int .i64 b] w fun e w' => e = .returned (.int .i64 (cmpI a b)) ∧ w' = w := by
  unfold cmpI
  by_cases h1 : a < b
  · rw [if_pos h1]
    go_enter Try.func45, Try.ntmps45
    go_wp2_with (go_at_call 57; refine (isNaN_any _ _).mono ?_; rintro e w' ⟨rfl, rfl⟩)
    go_ret
    exact ⟨rfl, rfl⟩
  · rw [if_neg h1]
    by_cases h2 : b < a
    · rw [if_pos h2]
      go_enter Try.func45, Try.ntmps45
      go_wp2_with (go_at_call 57; refine (isNaN_any _ _).mono ?_; rintro e w' ⟨rfl, rfl⟩)
      go_ret
      exact ⟨rfl, rfl⟩
    · rw [if_neg h2]
      go_enter Try.func45, Try.ntmps45
      go_wp2_with (go_at_call 57; refine (isNaN_any _ _).mono ?_; rintro e w' ⟨rfl, rfl⟩)
      go_ret
      exact ⟨rfl, rfl⟩

theorem orI_skip : ∀ {L : List Int} {i : Nat}, (∀ j x, j < i → L[j]? = some x → x = 0) → orI L = orI (L.drop i)
  | [], i, _ => by simp
  | x :: L, 0, _ => rfl
  | x :: L, i + 1, h => by
    have h0 := h 0 x (by omega) rfl
    subst h0
    unfold orI
    rw [if_pos rfl, List.drop_succ_cons, orI_skip (L := L) (i := i) fun j y hj hy => h (j + 1) y (by omega) (by simpa using hy)]
    cases L.drop i <;> rfl
set_option maxHeartbeats 1000000 in
theorem or_any (A : Option Addr) (L : List Int) (c : Nat) (w : World) (hL : L.length ≤ 1000) (h : Arr w w.heap.size 1 encI A L) :
    Calls Try.prog 62 #[.slice A L.length c] w fun e w' => e = .returned (.int .i64 (orI L)) ∧ w' = w := by
  have H := hid h
  have HS := hid (fun i => orI_skip (L := L) (i := i))
  have HD : Aside (∀ i x, L[i]? = some x → x ≠ 0 → orI (L.drop i) = x) := fun i x hx hne => by
    obtain ⟨hi, rfl⟩ := List.getElem?_eq_some_iff.1 hx
    rw [List.drop_eq_getElem_cons hi]
    unfold orI
    rw [if_neg hne]
  have HE : Aside (orI (L.drop L.length) = 0) := by
    show _ = _
    rw [List.drop_length]
    rfl
  clear h
  generalize orI L = q at *
  go_enter Try.func62, Try.ntmps62
  go_wp2
  go_loop [8] (fun s8 => ∃ kk : Nat, kk ≤ L.length ∧ s8 = .int .i64 kk ∧ Aside (∀ j x, j < kk → L[j]? = some x → x = 0)) (fun s8 => L.length - (intOf s8).toNat)
  case atStart => exact ⟨0, Nat.zero_le _, rfl, fun j x hj => absurd hj (Nat.not_lt_zero _)⟩
  case round =>
    obtain ⟨kk, hkk, rfl, N⟩ := hrel
    by_cases hlt : kk < L.length
    · obtain ⟨b, off, y, rfl, hb, hy, c1⟩ := H.out.at1 hlt
      have HY := hid hy
      clear hy
      by_cases hy0 : y = 0
      · subst hy0
        go_wp2
        go_round
        case measure => simp [intOf]; omega
        case rel =>
          refine ⟨kk + 1, by omega, by go_num, (show Aside _ from fun j x hj hx => ?_)⟩
          by_cases e : j = kk
          · subst e
            have := HY.out.symm.trans hx
            injection this with this
            exact this.symm
          · exact N.out j x (by omega) hx
      · have hne : (y != 0) = true := by rw [bne_iff_ne]; exact hy0
        have hres := (HS.out kk N.out).trans (HD.out kk y HY.out hy0)
        subst hres
        clear hy0 HS HD HE
        go_wp2
        go_ret
        exact ⟨rfl, rfl⟩
    · have hk : kk = L.length := by omega
      subst hk
      have hres := (HS.out _ N.out).trans HE.out
      subst hres
      clear HS HD HE
      go_wp2
      go_ret
      exact ⟨rfl, rfl⟩

theorem arr2 {W : World} {g : Nat} {p q : Int} {t : TypeId} (h : W.heap[g]? = some (.cells #[.int .i64 p, .int .i64 q] t (0, 0))) : Arr W W.heap.size 1 encI (some ⟨g, 0, none⟩) [p, q] := fun _ => by
  refine ⟨g, 0, rfl, (Array.getElem?_eq_some_iff.1 h).1, fun i x hx j v hv => ?_⟩
  have hj : j = 0 := by
    have := (List.getElem?_eq_some_iff.1 hv).1
    simp [encI] at this
    omega
  subst hj
  simp [encI] at hv
  subst hv
  rw [cell_of_row W g _ _ _ _ h]
  match i, hx with
  | 0, hx => simp at hx; subst hx; rfl
  | 1, hx => simp at hx; subst hx; rfl
  | i + 2, hx => simp at hx

theorem below_drewT {B : Nat} {w w' : World} (h : Below B w w') : Below B w w'.drew := ⟨h.os, h.tape, h.output, h.size, h.block⟩
theorem heap3 (w : World) (a b c : Obj) : (((w.alloc a).alloc b).alloc c).drew.heap[w.heap.size + 1 + 1]? = some c := by
  have := heap_alloc_new ((w.alloc a).alloc b) c
  have e : ((w.alloc a).alloc b).heap.size = w.heap.size + 1 + 1 := by simp
  rw [e] at this
  exact this
set_option maxHeartbeats 4000000 in
theorem nextPred_any (a b : TaskD) (w : World) (ha : okT a = true) (hb : okT b = true) :
    Calls Try.prog 61 #[.agg #[.int .i64 a.Id, .int .i64 a.Rank, .int .i64 a.Age], .agg #[.int .i64 b.Id, .int .i64 b.Rank, .int .i64 b.Age]] w
      fun e w' => e = .returned (.int .i64 (cmpT a b)) ∧ Below w.heap.size w w' := by
  obtain ⟨⟨a1, a2⟩, ⟨a3, a4⟩, a5, a6⟩ := okT_iff.1 ha
  obtain ⟨⟨b1, b2⟩, ⟨b3, b4⟩, b5, b6⟩ := okT_iff.1 hb
  have q1 := fun W => compare_any (a.Rank - 4 * a.Age) (b.Rank - 4 * b.Age) W
  have q2 := fun W => compare_any a.Id b.Id W
  have e1 : cmpT a b = orI [cmpI (a.Rank - 4 * a.Age) (b.Rank - 4 * b.Age), cmpI a.Id b.Id] := rfl
  have q3 : ∀ (g : Nat) (W : World), W.heap[g]? = some (.cells #[.int .i64 (cmpI (a.Rank - 4 * a.Age) (b.Rank - 4 * b.Age)), .int .i64 (cmpI a.Id b.Id)] 3 (0, 0)) → Calls Try.prog 62 #[.slice (some ⟨g, 0, none⟩) 2 2] W fun e w' => e = .returned (.int .i64 (orI [cmpI (a.Rank - 4 * a.Age) (b.Rank - 4 * b.Age), cmpI a.Id b.Id])) ∧ w' = W :=
    fun g W h => or_any (some ⟨g, 0, none⟩) [cmpI (a.Rank - 4 * a.Age) (b.Rank - 4 * b.Age), cmpI a.Id b.Id] 2 W (by simp) (arr2 h)
  rw [← e1] at q3
  generalize cmpT a b = res at *
  generalize cmpI (a.Rank - 4 * a.Age) (b.Rank - 4 * b.Age) = x at *
  generalize cmpI a.Id b.Id = y at *
  have Q1 := hid q1
  have Q2 := hid q2
  have Q3 := hid q3
  have s1 : IntKind.i64.wrap (4 * a.Age) = 4 * a.Age := IntWalk.i64_in _ (by omega)
  have s2 : IntKind.i64.wrap (4 * b.Age) = 4 * b.Age := IntWalk.i64_in _ (by omega)
  have s3 : IntKind.i64.wrap (a.Rank - 4 * a.Age) = a.Rank - 4 * a.Age := IntWalk.i64_in _ (by omega)
  have s4 : IntKind.i64.wrap (b.Rank - 4 * b.Age) = b.Rank - 4 * b.Age := IntWalk.i64_in _ (by omega)
  clear q1 q2 q3 e1 ha hb
  go_enter Try.func61, Try.ntmps61
  go_wp2_with fail
  go_region_held3 (fun w' => w'.cell? ⟨w.heap.size, 0, none⟩ = some (.int .i64 a.Id) ∧ w'.cell? ⟨w.heap.size, 1, none⟩ = some (.int .i64 a.Rank) ∧ w'.cell? ⟨w.heap.size, 2, none⟩ = some (.int .i64 a.Age) ∧ w'.cell? ⟨w.heap.size + 1, 0, none⟩ = some (.int .i64 b.Id) ∧ w'.cell? ⟨w.heap.size + 1, 1, none⟩ = some (.int .i64 b.Rank) ∧ w'.cell? ⟨w.heap.size + 1, 2, none⟩ = some (.int .i64 b.Age)) (go_keep)
    (first
      | ((with_reducible refine (Q1.out _).mono ?_); rintro e w' ⟨rfl, rfl⟩)
      | ((with_reducible refine (Q2.out _).mono ?_); rintro e w' ⟨rfl, rfl⟩)
      | ((with_reducible refine (Q3.out _ _ (by exact heap3 _ _ _ _)).mono ?_); rintro e w' ⟨rfl, rfl⟩))
  go_wp2
  go_ret
  exact ⟨rfl, below_drewT ((((Below.refl _ _).alloc (Nat.le_refl _) _).alloc (by simp) _).alloc (by simp; omega) _)⟩

/-- Three cells of a block. -/
theorem cells3 {w' : World} {g : Nat} {v0 v1 v2 : Value} {e : TypeId} (h1 : w'.heap[g]? = some (.cells #[v0, v1, v2] e (0, 0))) :
    (w'.cell? ⟨g, 0, none⟩ = some v0 ∧ w'.cell? ⟨g, 1, none⟩ = some v1 ∧ w'.cell? ⟨g, 2, none⟩ = some v2) ∧ (w'.frozen? ⟨g, 0, none⟩ = false ∧ w'.frozen? ⟨g, 1, none⟩ = false ∧ w'.frozen? ⟨g, 2, none⟩ = false) := by
  have hf : ∀ o, w'.frozen? ⟨g, o, none⟩ = false := fun o => frozen_of_row w' _ o _ _ h1
  refine ⟨⟨?_, ?_, ?_⟩, hf 0, hf 1, hf 2⟩
  all_goals (rw [cell_of_row w' _ _ _ _ _ h1]; rfl)
theorem set3_block {W : World} {g : Nat} {a0 a1 a2 v0 v1 v2 : Value} {e : TypeId} (h : W.heap[g]? = some (.cells #[a0, a1, a2] e (0, 0))) :
    (((W.setCell ⟨g, 0, none⟩ v0).setCell ⟨g, 1, none⟩ v1).setCell ⟨g, 2, none⟩ v2).heap[g]? = some (.cells #[v0, v1, v2] e (0, 0)) := by
  have h1 := heap_setCell_same W g 0 _ e v0 h
  have h2 := heap_setCell_same _ g 1 _ e v1 h1
  have h3 := heap_setCell_same _ g 2 _ e v2 h2
  exact h3
theorem below3 {B g : Nat} {w a w' : World} {v0 v1 v2 : Value} (h : Below B a w') (h0 : Below B w a) (hg : B ≤ g) :
    Below B w (((w'.setCell ⟨g, 0, none⟩ v0).setCell ⟨g, 1, none⟩ v1).setCell ⟨g, 2, none⟩ v2) :=
  (((h0.trans h).setCell (p := ⟨g, 0, none⟩) hg _).setCell (p := ⟨g, 1, none⟩) hg _).setCell (p := ⟨g, 2, none⟩) hg _

/-- The rounds' relation: the least of the first i lies in block g. -/
def MRel (w : World) (L : List TaskD) (i : Nat) (m : TaskD) (wr : World) : Prop :=
  m = nextT (L.take i) ∧ okT m = true ∧ wr.heap[w.heap.size]? = some (.cells #[.int .i64 0, .int .i64 0, .int .i64 0] 31 (0, 0)) ∧
    wr.heap[w.heap.size + 1]? = some (.cells #[.int .i64 m.Id, .int .i64 m.Rank, .int .i64 m.Age] 31 (0, 0)) ∧ Below w.heap.size w wr

set_option maxHeartbeats 4000000 in
theorem minFunc_any (A : Option Addr) (L : List TaskD) (c : Nat) (w : World) (hL : L.length ≤ 1048576) (hl : 0 < L.length) (hok : ∀ t ∈ L, okT t = true) (h : Arr w w.heap.size 3 encTask A L) :
    Calls Try.prog 60 #[.slice A L.length c, .func (.func 61) #[] #[]] w
      fun e w' => e = .returned (.agg #[.int .i64 (nextT L).Id, .int .i64 (nextT L).Rank, .int .i64 (nextT L).Age]) ∧ Below w.heap.size w w' := by
  have eg := enters_of Try.func61 (by kernel_rfl) rfl
  have H := hid h
  have HOK := hid hok
  have HN := hid (fun i x => nextT_take (L := L) (i := i) (x := x))
  have HEND : Aside (nextT L = nextT (L.take L.length)) := by
    show _ = _
    rw [List.take_length]
  obtain ⟨b0, off0, x0, rfl, hb0, hx0, p1, p2, p3⟩ := h.atTask hl
  simp only [Nat.zero_mul, Nat.add_zero] at p1 p2 p3
  have R0 : ∀ W o1 o2, W = (w.alloc o1).alloc o2 → o1 = .cells #[.int .i64 0, .int .i64 0, .int .i64 0] 31 → o2 = .cells #[.int .i64 x0.Id, .int .i64 x0.Rank, .int .i64 x0.Age] 31 → Aside (MRel w L 1 x0 W) := fun W o1 o2 e1 e2 e3 => by
    subst e1 e2 e3
    have a1 := heap_alloc_new w (.cells #[.int .i64 0, .int .i64 0, .int .i64 0] 31)
    have a2 := heap_alloc_new (w.alloc (.cells #[.int .i64 0, .int .i64 0, .int .i64 0] 31)) (.cells #[.int .i64 x0.Id, .int .i64 x0.Rank, .int .i64 x0.Age] 31)
    refine ⟨?_, hok _ (List.mem_of_getElem? hx0), ?_, by simpa using a2, ((Below.refl _ _).alloc (Nat.le_refl _) _).alloc (by simp) _⟩
    · cases L with
      | nil => simp at hl
      | cons q L => simp at hx0; rw [← hx0]; rfl
    · rw [Below.heap_alloc _ _ _ (by simp)]; exact a1
  have HR0 := hid R0
  clear h hok R0 hx0
  generalize nextT L = res at *
  go_enter Try.func60, Try.ntmps60
  go_wp2
  go_loopg [6] L.length (fun gg s6 wr => ∃ (i : Nat) (m : TaskD), 1 ≤ i ∧ i ≤ L.length ∧ L.length - i ≤ gg ∧ s6 = .int .i64 i ∧ Aside (MRel w L i m wr))
  case atStart => exact ⟨1, x0, by omega, hl, by omega, rfl, HR0.out _ _ _ rfl rfl rfl⟩
  case round =>
    obtain ⟨i, m, hi1, hi, hgg, rfl, R⟩ := hrel
    obtain ⟨hm, hmok, hz, hblk, hbel⟩ := R.out
    have hzz : w.heap.size + 1 < wr.heap.size := (Array.getElem?_eq_some_iff.1 hblk).1
    obtain ⟨⟨m1, m2, m3⟩, n1, n2, n3⟩ := cells3 hblk
    obtain ⟨⟨z1, z2, z3⟩, y1, y2, y3⟩ := cells3 hz
    have HM := hid hm
    have HMOK := hid hmok
    have HZ := hid hz
    have HBLK := hid hblk
    have HBEL := hid hbel
    clear R hm hmok hz hblk hbel
    by_cases hlt : i < L.length
    · obtain ⟨x, hx, hbb, c1, c2, c3⟩ := (H.out.below HBEL.out).litTask hlt
      have hc := fun W => nextPred_any x m W (HOK.out x (List.mem_of_getElem? hx)) HMOK.out
      have hd := cmpT_soon x m
      have hnx := HN.out i x (by omega) hx
      rw [← HM.out] at hnx
      have HX := hid hx
      have HC := hid hc
      have HXOK := hid (HOK.out x (List.mem_of_getElem? hx))
      have i1 : (0 : Int) ≤ (i : Int) := by omega
      have i2 : (i : Int) < (L.length : Int) := by omega
      have hbw : b0 < wr.heap.size := by omega
      generalize cmpT x m = cm at *
      have HNX := hid hnx
      clear hx hc hnx
      have hw0 : w.heap.size < wr.heap.size := by omega
      cases hs : soonT x m
      all_goals
        rw [hs] at hd HNX
        clear hs
        go_wp2_with fail
        go_region_held3 (fun w' => w'.cell? ⟨b0, off0 + i * 3, none⟩ = some (.int .i64 x.Id) ∧ w'.cell? ⟨b0, off0 + i * 3 + 1, none⟩ = some (.int .i64 x.Rank) ∧ w'.cell? ⟨b0, off0 + i * 3 + 2, none⟩ = some (.int .i64 x.Age) ∧ w'.cell? ⟨w.heap.size + 1, 0, none⟩ = some (.int .i64 m.Id) ∧ w'.cell? ⟨w.heap.size + 1, 1, none⟩ = some (.int .i64 m.Rank) ∧ w'.cell? ⟨w.heap.size + 1, 2, none⟩ = some (.int .i64 m.Age)) (go_keep)
          (((with_reducible refine (HC.out _).mono ?_); rintro e w2 ⟨rfl, hb2⟩; have k1 := (hb2.cell (p := ⟨b0, off0 + i * 3, none⟩) hbw).trans c1; have k2 := (hb2.cell (p := ⟨b0, off0 + i * 3 + 1, none⟩) hbw).trans c2; have k3 := (hb2.cell (p := ⟨b0, off0 + i * 3 + 2, none⟩) hbw).trans c3; have j1 := (hb2.cell (p := ⟨w.heap.size + 1, 0, none⟩) hzz).trans m1; have j2 := (hb2.cell (p := ⟨w.heap.size + 1, 1, none⟩) hzz).trans m2; have j3 := (hb2.cell (p := ⟨w.heap.size + 1, 2, none⟩) hzz).trans m3; have HB2 := hid (below_undrew hb2); clear hb2; dsimp only))
        have zb := (HB2.out.block _ hzz).trans HBLK.out
        have zz := (HB2.out.block _ hw0).trans HZ.out
        have ZB := hid zb
        have ZZ := hid zz
        obtain ⟨⟨t1, t2, t3⟩, s1, s2, s3⟩ := cells3 zb
        have hz2 := HB2.out.size
        obtain ⟨-, -, v1, v2, v3⟩ : True ∧ True ∧ w2.cell? ⟨b0, off0 + i * 3, none⟩ = some (.int .i64 x.Id) ∧ w2.cell? ⟨b0, off0 + i * 3 + 1, none⟩ = some (.int .i64 x.Rank) ∧ w2.cell? ⟨b0, off0 + i * 3 + 2, none⟩ = some (.int .i64 x.Age) :=
          ⟨trivial, trivial, (HB2.out.cell (p := ⟨b0, off0 + i * 3, none⟩) hbw).trans c1, (HB2.out.cell (p := ⟨b0, off0 + i * 3 + 1, none⟩) hbw).trans c2, (HB2.out.cell (p := ⟨b0, off0 + i * 3 + 2, none⟩) hbw).trans c3⟩
        have hbx : Below w.heap.size w w2 := HBEL.out.trans (HB2.out.mono (Nat.le_of_lt hw0))
        have HBX := hid hbx
        have HBY := hid (below3 (g := w.heap.size + 1) (v0 := .int .i64 x.Id) (v1 := .int .i64 x.Rank) (v2 := .int .i64 x.Age) (Below.refl w.heap.size w2) hbx (Nat.le_succ _))
        have HBZ := hid (below3 (g := w.heap.size + 1) (v0 := .int .i64 x.Id) (v1 := .int .i64 x.Rank) (v2 := .int .i64 x.Age) (Below.refl (w.heap.size + 1) w2) (HB2.out.mono (Nat.le_of_lt hzz)) (Nat.le_refl _))
        clear zb zz hbx
        go_wp2
      · go_roundg (L.length - (i + 1))
        case measure => omega
        case rel => exact ⟨i + 1, m, by omega, by omega, by omega, by go_num, (by have := HNX.out; simpa using this.symm), HMOK.out, ZZ.out, ZB.out, HBX.out⟩
      · go_roundg (L.length - (i + 1))
        case measure => omega
        case rel => exact ⟨i + 1, x, by omega, by omega, by omega, by go_num, (by have := HNX.out; simpa using this.symm), HXOK.out, (HBZ.out.block _ (Nat.lt_succ_self _)).trans HZ.out, set3_block ZB.out, HBY.out⟩
    · have hil : i = L.length := by omega
      subst hil
      have hres : res = m := by rw [HEND.out, HM.out]
      subst hres
      clear HEND HM
      go_wp2
      refine bodyPost_ret (v := .agg #[.int .i64 res.Id, .int .i64 res.Rank, .int .i64 res.Age]) (by simp [results, Try.results60, go_sem, z1, z2, z3]) rfl ⟨rfl, ?_⟩
      exact below3 (Below.refl _ _) HBEL.out (Nat.le_refl _)

set_option maxHeartbeats 1000000 in
theorem next_any (A : Option Addr) (L : List TaskD) (c : Nat) (w : World) (hL : L.length ≤ 1048576) (hl : 0 < L.length) (hok : ∀ t ∈ L, okT t = true) (h : Arr w w.heap.size 3 encTask A L) :
    Calls Try.prog 48 #[.slice A L.length c] w
      fun e w' => e = .returned (.agg #[.int .i64 (nextT L).Id, .int .i64 (nextT L).Rank, .int .i64 (nextT L).Age]) ∧ Below w.heap.size w w' := by
  have HC := hid (fun W hW => minFunc_any A L c W hL hl hok hW)
  have H := hid h
  clear h
  generalize nextT L = m at *
  have K : ∀ o, Below w.heap.size w (w.alloc o) := fun o => (Below.refl _ _).alloc (Nat.le_refl _) _
  have HK := hid K
  clear K
  go_enter Try.func48, Try.ntmps48
  go_wp2_with fail
  refine (HC.out _ ((H.out.below (HK.out _)).more (by simp))).mono ?_
  rintro e w1 ⟨rfl, hb1⟩
  have hz := (hb1.block w.heap.size (by simp)).trans (heap_alloc_new w _)
  obtain ⟨⟨z1, z2, z3⟩, y1, y2, y3⟩ := cells3 hz
  have HB := hid hb1
  clear hb1 hz
  go_wp2
  refine bodyPost_ret (v := .agg #[.int .i64 m.Id, .int .i64 m.Rank, .int .i64 m.Age]) (by simp [results, Try.results48, go_sem, z1, z2, z3]) rfl ⟨rfl, ?_⟩
  exact below3 (HB.out.mono (by simp)) (HK.out _) (Nat.le_refl _)

theorem field_id (a b c : Int) (w : World) : (Instr.field 31 (.agg #[.int .i64 a, .int .i64 b, .int .i64 c]) 0).run Try.prog w = .ok (.int .i64 a) w := by kernel_rfl
/-- What NextTask gives. -/
def nextV (L : List TaskD) : Int := if validT L then (if L.isEmpty then -1 else (nextT L).Id) else -1

set_option maxHeartbeats 1000000 in
theorem nextTask_any (A : Option Addr) (L : List TaskD) (c : Nat) (w : World) (hL : L.length ≤ 1048576) (h : Arr w w.heap.size 3 encTask A L) :
    Calls Try.prog 18 #[.slice A L.length c] w fun e w' => e = .returned (.int .i64 (nextV L)) ∧ Below w.heap.size w w' := by
  have hv := validTasks_any A L c w hL h
  have HN := hid (fun (h1 : 0 < L.length) (h2 : validT L = true) W hW => next_any A L c W hL h1 (validT_iff.1 h2).2.1 hW)
  have H := hid h
  have e0 : nextV L = if validT L then (if L.isEmpty then -1 else (nextT L).Id) else -1 := rfl
  clear h
  rw [e0]
  cases hq : validT L
  · rw [hq] at hv
    clear hq e0
    simp only [Bool.false_eq_true, if_false]
    go_enter Try.func18, Try.ntmps18
    go_wp2_with fail
    refine hv.mono ?_
    rintro e w1 ⟨rfl, hb1⟩
    have HB := hid hb1
    clear hb1
    go_wp2
    go_ret
    exact ⟨rfl, HB.out⟩
  · rw [hq] at hv
    simp only [if_true]
    by_cases hl : 0 < L.length
    · have hne : L.isEmpty = false := by cases L with | nil => simp at hl | cons x L => rfl
      rw [hne]
      simp only [Bool.false_eq_true, if_false]
      have HNN := hid (HN.out hl hq)
      have hl0 : ((L.length : Int) == 0) = false := by rw [beq_eq_false_iff_ne]; omega
      clear HN hq e0 hne
      generalize nextT L = m at *
      have hf := fun w => field_id m.Id m.Rank m.Age w
      go_enter Try.func18, Try.ntmps18
      go_wp2_with fail
      refine hv.mono ?_
      rintro e w1 ⟨rfl, hb1⟩
      have HB := hid hb1
      have H1 := hid (H.out.next hb1)
      clear hb1
      go_wp2_with fail
      refine (HNN.out _ H1.out).mono ?_
      rintro e w2 ⟨rfl, hb2⟩
      have HB2 := hid (chain HB.out hb2)
      clear hb2
      go_wp2
      go_ret
      exact ⟨rfl, HB2.out⟩
    · have hnil : L = [] := List.eq_nil_of_length_eq_zero (by omega)
      have hne : L.isEmpty = true := by rw [hnil]; rfl
      have hl0 : ((L.length : Int) == 0) = true := by rw [beq_iff_eq]; omega
      rw [hne]
      have HNIL := hid hnil
      clear hq HN e0 hne hnil hl
      simp only [if_true]
      go_enter Try.func18, Try.ntmps18
      go_wp2_with fail
      refine hv.mono ?_
      rintro e w1 ⟨rfl, hb1⟩
      have HB := hid hb1
      clear hb1
      go_wp2
      go_ret
      exact ⟨rfl, HB.out⟩
end Go.Proofs.Ythppgaglmgnocaa
