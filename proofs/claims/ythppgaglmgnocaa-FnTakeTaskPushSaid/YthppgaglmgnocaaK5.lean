/- Taking tasks: impl.taken, impl.TakeTask, spec.take, spec.TakeTask, spec.NextTask. -/
import Derived.Test.YthppgaglmgnocaaK4
namespace Go.Proofs.Ythppgaglmgnocaa
set_option linter.unusedVariables false
set_option linter.unusedSimpArgs false
open Go.RowKit Go.Lib

theorem eltTaskK : Elt Try.prog 23 31 3 24 := Elt.mk' Try.underlying23 (z := .agg #[.int .i64 0, .int .i64 0, .int .i64 0]) (by kernel_rfl) rfl (by omega) (by omega)
theorem eltIntK : Elt Try.prog 39 3 1 8 := Elt.mk' Try.underlying39 (z := .int .i64 0) (by kernel_rfl) rfl (by omega) (by omega)

/-- What of the first i tasks is left, all older. -/
def takeTo (L : List TaskD) (g : Int) (i : Nat) : List TaskD := ((L.take i).filter fun t => !(t.Id == g)).map olderT
theorem takeTo_zero (L : List TaskD) (g : Int) : takeTo L g 0 = [] := by simp [takeTo]
theorem takeTo_all (L : List TaskD) : takeTo L (nextT L).Id L.length = takeT L := by
  unfold takeTo takeT
  rw [List.take_length]
theorem takeTo_next {L : List TaskD} {g : Int} {i : Nat} {x : TaskD} (h : L[i]? = some x) : takeTo L g (i + 1) = if x.Id == g then takeTo L g i else takeTo L g i ++ [olderT x] := by
  obtain ⟨hi, rfl⟩ := List.getElem?_eq_some_iff.1 h
  unfold takeTo
  rw [List.take_succ_eq_append_getElem hi, List.filter_append, List.map_append, List.filter_cons]
  cases e : (L[i].Id == g) <;> simp
theorem takeTo_len (L : List TaskD) (g : Int) (i : Nat) : (takeTo L g i).length ≤ i := by
  unfold takeTo
  rw [List.length_map]
  refine Nat.le_trans (List.length_filter_le _ _) ?_
  rw [List.length_take]
  omega

/-- The loops' relation. -/
def TRel (w : World) (L : List TaskD) (g : Int) (i : Nat) (A4 : Option Addr) (n4 c4 : Nat) (wr : World) : Prop :=
  n4 = (takeTo L g i).length ∧ wr.ownsRow w.heap.size 31 3 (.slice A4 n4 c4) n4 ((takeTo L g i).flatMap encTask) ∧ Below w.heap.size w wr

set_option maxHeartbeats 400000 in
theorem clipTask_any (A : Option Addr) (n c : Nat) (w : World) (hn : n ≤ c) :
    Calls Try.prog 47 #[.slice A n c] w fun e w' => e = .returned (.slice A n n) ∧ w = w' := by
  go_enter Try.func47, Try.ntmps47
  go_wp2
  go_ret
  exact ⟨rfl, rfl⟩

set_option maxHeartbeats 4000000 in
theorem taken_any (A : Option Addr) (L : List TaskD) (c : Nat) (w : World) (hL : L.length ≤ 1048576) (hl : 0 < L.length) (hv : validT L = true) (h : Arr w w.heap.size 3 encTask A L) :
    Calls Try.prog 37 #[.slice A L.length c] w (Gives 3 encTask (takeT L) w) := by
  have hok := (validT_iff.1 hv).2.1
  have hl10 := (validT_iff.1 hv).1
  have HC := hid (next_any A L c w hL hl hok h)
  have H := hid h
  have HOK := hid hok
  have HALL := hid (takeTo_all L)
  clear h hok hv
  generalize nextT L = m at *
  go_enter Try.func37, Try.ntmps37
  go_wp2_with fail
  refine HC.out.mono ?_
  rintro e w1 ⟨rfl, b1⟩
  have B1 := hid b1
  have R00 : ∀ W o w4, W = w1.alloc o → o = .cells #[.int .i64 m.Id, .int .i64 m.Rank, .int .i64 m.Age] 31 → w4.ownsRow W.heap.size 31 3 (.slice (some ⟨W.heap.size, 0, none⟩) 0 L.length) 0 [] → Below W.heap.size W w4 → Aside (TRel W L m.Id 0 (some ⟨W.heap.size, 0, none⟩) 0 L.length w4) := fun W o w4 e1 e2 ho hb => ⟨by rw [takeTo_zero]; rfl, by rw [takeTo_zero]; exact ho, hb⟩
  have HR00 := hid R00
  clear b1 R00
  go_wp2_with (first | (at_make; refine wpList_make0 _ eltTaskK rfl _ (.tmp 10) rfl L.length rfl rfl (by omega) ?_; intro w4 own4 hb4) | fail)
  obtain ⟨W, hW⟩ : ∃ W, W = w1.alloc (.cells #[.int .i64 m.Id, .int .i64 m.Rank, .int .i64 m.Age] 31) := ⟨_, rfl⟩
  rw [← hW] at own4 hb4
  have hWs : W.heap.size = w1.heap.size + 1 := by rw [hW]; simp
  have R0 := HR00.out W _ w4 hW rfl own4 hb4
  have hWb : W.heap[w1.heap.size]? = some (.cells #[.int .i64 m.Id, .int .i64 m.Rank, .int .i64 m.Age] 31 (0, 0)) := by rw [hW]; exact heap_alloc_new _ _
  have BW := hid (show Below w.heap.size w W by rw [hW]; exact B1.out.alloc B1.out.size _)
  have HWB := hid hWb
  have HWS := hid hWs
  have hws' : w1.heap.size < W.heap.size := by omega
  have hwsw : w.heap.size ≤ W.heap.size := BW.out.size
  clear own4 hb4 HR00 hWb hWs hW
  go_wp2
  go_loopg [4, 14] L.length (fun gg s4 s14 wr => ∃ (i n4 c4 : Nat) (A4 : Option Addr), i ≤ L.length ∧ L.length - i ≤ gg ∧ s4 = .slice A4 n4 c4 ∧ s14 = .int .i64 i ∧ Aside (TRel W L m.Id i A4 n4 c4 wr))
  case atStart => exact ⟨0, _, _, _, Nat.zero_le _, by omega, rfl, rfl, (by rw [← HWS.out]; exact R0)⟩
  case round =>
    obtain ⟨i, n4, c4, A4, hi, hgg, rfl, rfl, R⟩ := hrel
    clear R0
    obtain ⟨hn4, hown, hbl⟩ := R.out
    have hlei := takeTo_len L m.Id i
    rw [← hn4] at hlei
    have HN := hid hn4
    have HO := hid hown
    have HB := hid hbl
    have hsz := hbl.size
    have hwb := (hbl.block _ hws').trans HWB.out
    obtain ⟨⟨m1, m2, m3⟩, -⟩ := cells3 hwb
    have hw1 : w1.heap.size < wr.heap.size := by omega
    clear R hn4 hown hbl hwb
    by_cases hlt : i < L.length
    · obtain ⟨p, off, x, rfl, hp, hx, d1, d2, d3⟩ := ((H.out.next BW.out).below HB.out).atTask hlt
      have hpw : p < wr.heap.size := by omega
      obtain ⟨-, -, a5, a6⟩ := okT_iff.1 (HOK.out x (List.mem_of_getElem? hx))
      have hnx := takeTo_next (g := m.Id) hx
      clear hx
      by_cases hxm : x.Id = m.Id
      · have hb : (x.Id != m.Id) = false := by rw [hxm]; simp
        have hq : (x.Id == m.Id) = true := by rw [beq_iff_eq]; exact hxm
        rw [hq, if_pos rfl] at hnx
        have HNX := hid hnx
        clear hnx hq hxm
        go_wp2
        go_roundg (L.length - (i + 1))
        case measure => omega
        case rel => exact ⟨i + 1, n4, c4, A4, by omega, by omega, rfl, by go_num, by rw [HNX.out]; exact HN.out, by rw [HNX.out]; exact HO.out.alloc _, HB.out.alloc hsz _⟩
      · have hb : (x.Id != m.Id) = true := by rw [bne_iff_ne]; exact hxm
        have hq : (x.Id == m.Id) = false := by rw [beq_eq_false_iff_ne]; exact hxm
        rw [hq, if_neg (by simp)] at hnx
        have HNX := hid hnx
        have hn : n4 ≤ 1000000 := by omega
        clear hnx hq hxm
        go_wp2_with (at_builtin; refine wpList_push eltTaskK rfl (.tmp 28) (.tmp 30) rfl W.heap.size _ n4 _ (HO.out.alloc _) hn (Nat.le_trans hsz (by simp)) (wr.heap.size + 1) _ rfl rfl (by simp) rfl (fun q hq => ocTask (olderT x) q hq) ?_; intro A8 c8 w8 own8 gr8 at8)
        have O8 := hid own8
        have HB8 := hid ((HB.out.alloc hsz (.cells #[.int .i64 x.Id, .int .i64 x.Rank, .int .i64 (min (x.Age + 1) 20)] 31)).grown gr8 (Nat.le_trans hsz (by simp)) (fun q hq => (HO.out.lt q hq).1))
        clear own8 gr8 at8
        go_wp2
        go_roundg (L.length - (i + 1))
        case measure => omega
        case rel => exact ⟨i + 1, n4 + 1, c8, A8, by omega, by omega, rfl, by go_num, by rw [HNX.out, HN.out]; simp, by rw [HNX.out, List.flatMap_append]; exact O8.out, HB8.out⟩
    · have hil : i = L.length := by omega
      subst hil
      obtain ⟨hic1, hic2⟩ := slice_le HO.out
      go_wp2_with fail
      refine (clipTask_any A4 n4 c4 _ hic1).mono ?_
      rintro e w9 ⟨rfl, rfl⟩
      go_wp2
      go_ret
      have hn : n4 = (takeT L).length := by rw [HN.out, HALL.out]
      refine ⟨A4, n4, by rw [← hn]; rfl, by rw [← hn]; exact Nat.le_refl _, by omega, ?_, BW.out.trans (HB.out.mono hwsw)⟩
      have ho := HO.out
      rw [HALL.out] at ho
      exact (OwnA.of_rowN (enc := encTask) (k := 3) (fun _ => rfl) hn rfl ho).less hwsw

/-- What leaves a list in new memory, and a flag. -/
def GivesK {α : Type} (k : Nat) (enc : α → List Value) (L : List α) (ok : Bool) (w : World) (e : Ending) (w' : World) : Prop :=
  ∃ A c, e = .returned (.tuple #[.slice A L.length c, .bool ok]) ∧ L.length ≤ c ∧ c ≤ maxLen ∧ OwnA w' w.heap.size k enc A L ∧ Below w.heap.size w w'
theorem GivesK.nil {w w' : World} {e : Ending} {α : Type} {k : Nat} {enc : α → List Value} {ok : Bool} (he : e = .returned (.tuple #[.slice none 0 0, .bool ok])) (hb : Below w.heap.size w w') : GivesK k enc [] ok w e w' :=
  ⟨none, 0, he, by simp, by simp [maxLen], fun h => absurd h (by simp), hb⟩
def takeOk (L : List TaskD) : Bool := validT L && !L.isEmpty
def takeV (L : List TaskD) : List TaskD := if takeOk L then takeT L else []
theorem takeOk_iff {L : List TaskD} : takeOk L = true ↔ validT L = true ∧ 0 < L.length := by
  unfold takeOk
  cases L with
  | nil => simp
  | cons x L => simp

set_option maxHeartbeats 2000000 in
theorem takeTask_any (A : Option Addr) (L : List TaskD) (c : Nat) (w : World) (hL : L.length ≤ 1048576) (h : Arr w w.heap.size 3 encTask A L) :
    Calls Try.prog 14 #[.slice A L.length c] w (GivesK 3 encTask (takeV L) (takeOk L) w) := by
  have hv := validTasks_any A L c w hL h
  have HN := hid (fun (h1 : 0 < L.length) (h2 : validT L = true) W hW => taken_any A L c W hL h1 h2 hW)
  have H := hid h
  have e0 : takeV L = if takeOk L then takeT L else [] := rfl
  have e1 : takeOk L = (validT L && !L.isEmpty) := rfl
  clear h
  rw [e0, e1]
  clear e0 e1
  cases hq : validT L
  · rw [hq] at hv
    clear hq HN
    simp only [Bool.false_and, Bool.false_eq_true, if_false]
    go_enter Try.func14, Try.ntmps14
    go_wp2_with fail
    refine hv.mono ?_
    rintro e w1 ⟨rfl, hb1⟩
    have HB := hid hb1
    clear hb1
    go_wp2
    go_ret2
    exact GivesK.nil rfl HB.out
  · rw [hq] at hv
    by_cases hl : 0 < L.length
    · have hne : L.isEmpty = false := by cases L with | nil => simp at hl | cons x L => rfl
      rw [hne]
      simp only [Bool.not_false, Bool.and_self, if_true]
      have HNN := hid (HN.out hl hq)
      have hl0 : ((L.length : Int) == 0) = false := by rw [beq_eq_false_iff_ne]; omega
      clear HN hq hne
      generalize takeT L = M at *
      go_enter Try.func14, Try.ntmps14
      go_wp2_with fail
      refine hv.mono ?_
      rintro e w1 ⟨rfl, hb1⟩
      have HB := hid hb1
      have H1 := hid (H.out.next hb1)
      clear hb1
      go_wp2_with fail
      refine (HNN.out _ H1.out).mono ?_
      rintro e w2 ⟨A2, c2, rfl, h21, h22, o2, hb2⟩
      have HB2 := hid (chain HB.out hb2)
      have O2 := hid (o2.less HB.out.size)
      clear hb2 o2
      go_wp2
      go_ret2
      exact ⟨A2, c2, rfl, h21, h22, O2.out, HB2.out⟩
    · have hnil : L = [] := List.eq_nil_of_length_eq_zero (by omega)
      have hne : L.isEmpty = true := by rw [hnil]; rfl
      have hl0 : ((L.length : Int) == 0) = true := by rw [beq_iff_eq]; omega
      rw [hne]
      have HNIL := hid hnil
      clear hq HN hne hnil hl
      simp only [Bool.not_true, Bool.and_false, Bool.false_eq_true, if_false]
      go_enter Try.func14, Try.ntmps14
      go_wp2_with fail
      refine hv.mono ?_
      rintro e w1 ⟨rfl, hb1⟩
      have HB := hid hb1
      clear hb1
      go_wp2
      go_ret2
      exact GivesK.nil rfl HB.out
end Go.Proofs.Ythppgaglmgnocaa
