/- The reference's taking of tasks: spec.take, spec.TakeTask, spec.NextTask. -/
import Derived.Test.YthppgaglmgnocaaK5
namespace Go.Proofs.Ythppgaglmgnocaa
set_option linter.unusedVariables false
set_option linter.unusedSimpArgs false
open Go.RowKit Go.Lib

/-- What leaves a row of the call's own: a list in new memory that may be appended to. -/
def GivesRow (L : List TaskD) (w : World) (e : Ending) (w' : World) : Prop :=
  ∃ A c, e = .returned (.slice A L.length c) ∧ w'.ownsRow w.heap.size 31 3 (.slice A L.length c) L.length (L.flatMap encTask) ∧ Below w.heap.size w w'
theorem row_less {w : World} {base base' : Nat} {e : TypeId} {size n : Nat} {v : Value} {xs : List Value} (h : w.ownsRow base' e size v n xs) (hb : base ≤ base') : w.ownsRow base e size v n xs := by
  refine ⟨h.1, ?_⟩
  rcases h.2 with h1 | ⟨g, cap, cur, h1, h2, h3⟩
  · exact .inl h1
  · exact .inr ⟨g, cap, cur, h1, by omega, h3⟩

set_option maxHeartbeats 4000000 in
theorem takeRow_any (A : Option Addr) (L : List TaskD) (c : Nat) (w : World) (hL : L.length ≤ 1048576) (hl : 0 < L.length) (hv : validT L = true) (h : Arr w w.heap.size 3 encTask A L) :
    Calls Try.prog 39 #[.slice A L.length c] w (GivesRow (takeT L) w) := by
  have hok := (validT_iff.1 hv).2.1
  have hasc := (validT_iff.1 hv).2.2
  have hl10 := (validT_iff.1 hv).1
  have K : ∀ o, Below w.heap.size w (w.alloc o) := fun o => (Below.refl _ _).alloc (Nat.le_refl _) _
  have HK := hid K
  have HC := hid (fun W hW => nextAt_any A L c W hL hl hok hW)
  have H := hid h
  have HOK := hid hok
  have HALL := hid (takeTo_all L)
  have HUQ : Aside (∀ (i k : Nat) (x : TaskD), L[i]? = some x → L[k]? = some (nextT L) → (x.Id = (nextT L).Id ↔ i = k)) := fun i k x hi hk => by
    constructor
    · intro e
      exact asc_uniq hasc hi hk e
    · intro e
      subst e
      rw [hi] at hk
      injection hk with hk
      rw [hk]
  have R00 : ∀ W W1, W = w.alloc (.cells #[] 31) → Below W.heap.size W W1 → Aside (TRel w L (nextT L).Id 0 (some ⟨w.heap.size, 0, none⟩) 0 0 W1) := fun W W1 e1 hb => by
    subst e1
    refine ⟨by rw [takeTo_zero]; rfl, ?_, (K _).trans (hb.mono (by simp))⟩
    rw [takeTo_zero]
    exact row_next (World.ownsRow_made w #[] 0 (Nat.le_refl _) (by simp [maxLen]) rfl) hb
  have HR00 := hid R00
  clear h hok hv hasc K R00
  generalize nextT L = m at *
  go_enter Try.func39, Try.ntmps39
  go_wp2_with fail
  refine (HC.out _ ((H.out.below (HK.out _)).more (by simp))).mono ?_
  rintro e w1 ⟨at_, rfl, hat, hatm, b1⟩
  have R0 := HR00.out _ _ rfl b1
  have HATM := hid hatm
  clear b1 hatm HR00
  go_wp2
  go_loopg [3, 5] L.length (fun gg s3 s5 wr => ∃ (i n4 c4 : Nat) (A4 : Option Addr), i ≤ L.length ∧ L.length - i ≤ gg ∧ s3 = .slice A4 n4 c4 ∧ s5 = .int .i64 i ∧ Aside (TRel w L m.Id i A4 n4 c4 wr))
  case atStart => exact ⟨0, _, _, _, Nat.zero_le _, by omega, rfl, rfl, R0⟩
  case round =>
    obtain ⟨i, n4, c4, A4, hi, hgg, rfl, rfl, R⟩ := hrel
    clear R0
    obtain ⟨hn4, hown, hbl⟩ := R.out
    have hlei := takeTo_len L m.Id i
    rw [← hn4] at hlei
    have HN := hid hn4
    have HO := hid hown
    have HB := hid hbl
    have hsz := hbl.size
    clear R hn4 hown hbl
    by_cases hlt : i < L.length
    · obtain ⟨p, off, x, rfl, hp, hx, d1, d2, d3⟩ := (H.out.below HB.out).atTask hlt
      have hpw : p < wr.heap.size := by omega
      obtain ⟨-, -, a5, a6⟩ := okT_iff.1 (HOK.out x (List.mem_of_getElem? hx))
      have hnx := takeTo_next (g := m.Id) hx
      have huq := HUQ.out i at_ x hx HATM.out
      clear hx
      by_cases hxm : i = at_
      · have hb : ((i : Int) != (at_ : Int)) = false := by rw [hxm]; simp
        have hb' : (i != at_) = false := by rw [hxm]; simp
        have hq : (x.Id == m.Id) = true := by rw [beq_iff_eq]; exact huq.2 hxm
        rw [hq, if_pos rfl] at hnx
        have HNX := hid hnx
        clear hnx hq hxm huq
        go_wp2
        go_roundg (L.length - (i + 1))
        case measure => omega
        case rel => exact ⟨i + 1, n4, c4, A4, by omega, by omega, rfl, by go_num, by rw [HNX.out]; exact HN.out, by rw [HNX.out]; exact HO.out, HB.out⟩
      · have hb : ((i : Int) != (at_ : Int)) = true := by rw [bne_iff_ne]; omega
        have hb' : (i != at_) = true := by rw [bne_iff_ne]; exact hxm
        have hq : (x.Id == m.Id) = false := by rw [beq_eq_false_iff_ne]; exact fun e => hxm (huq.1 e)
        rw [hq, if_neg (by simp)] at hnx
        have HNX := hid hnx
        have hn : n4 ≤ 1000000 := by omega
        clear hnx hq hxm huq
        go_wp2_with (at_builtin; refine wpList_push eltTaskK rfl (.tmp 28) (.tmp 30) rfl w.heap.size _ n4 _ (HO.out.alloc _) hn (Nat.le_trans hsz (by simp)) (wr.heap.size + 1) _ rfl rfl (by simp) rfl (fun q hq => ocTask (olderT x) q hq) ?_; intro A8 c8 w8 own8 gr8 at8)
        have O8 := hid own8
        have HB8 := hid ((HB.out.alloc hsz (.cells #[.int .i64 x.Id, .int .i64 x.Rank, .int .i64 (min (x.Age + 1) 20)] 31)).grown gr8 (Nat.le_trans hsz (by simp)) (fun q hq => (HO.out.lt q hq).1))
        clear own8 gr8 at8
        go_wp2
        go_roundg (L.length - (i + 1))
        case measure => omega
        case rel => exact ⟨i + 1, n4 + 1, c8, A8, by omega, by omega, rfl, by go_num, by rw [HNX.out, HN.out]; simp, by rw [HNX.out, List.flatMap_append]; exact O8.out, HB8.out⟩
    · have hil : i = L.length := by omega
      subst hil
      obtain ⟨hic1, hic2⟩ := slice_le HO.out
      go_wp2
      go_ret
      have hn : n4 = (takeT L).length := by rw [HN.out, HALL.out]
      refine ⟨A4, c4, by rw [← hn]; rfl, ?_, HB.out⟩
      have ho := HO.out
      rw [HALL.out] at ho
      rw [← hn]
      exact ho
theorem take_any (A : Option Addr) (L : List TaskD) (c : Nat) (w : World) (hL : L.length ≤ 1048576) (hl : 0 < L.length) (hv : validT L = true) (h : Arr w w.heap.size 3 encTask A L) :
    Calls Try.prog 39 #[.slice A L.length c] w (Gives 3 encTask (takeT L) w) :=
  (takeRow_any A L c w hL hl hv h).mono fun _ _ ⟨A', c', he, ho, hb⟩ => ⟨A', c', he, (slice_le ho).1, (slice_le ho).2, OwnA.of_row (fun _ => rfl) ho, hb⟩

set_option maxHeartbeats 2000000 in
theorem specTakeTask_any (A : Option Addr) (L : List TaskD) (c : Nat) (w : World) (hL : L.length ≤ 1048576) (h : Arr w w.heap.size 3 encTask A L) :
    Calls Try.prog 15 #[.slice A L.length c] w (GivesK 3 encTask (takeV L) (takeOk L) w) := by
  have hv := specvalidTasks_any A L c w hL h
  have HN := hid (fun (h1 : 0 < L.length) (h2 : validT L = true) W hW => take_any A L c W hL h1 h2 hW)
  have H := hid h
  have e0 : takeV L = if takeOk L then takeT L else [] := rfl
  have e1 : takeOk L = (validT L && !L.isEmpty) := rfl
  clear h
  rw [e0, e1]
  clear e0 e1
  cases hq : validT L
  · rw [hq] at hv
    clear hq HN
    simp only [Bool.false_and, Bool.false_eq_true, if_false]
    go_enter Try.func15, Try.ntmps15
    go_wp2_with fail
    refine hv.mono ?_
    rintro e w1 ⟨rfl, hb1⟩
    have HB := hid hb1
    clear hb1
    go_wp2
    go_ret2
    exact GivesK.nil rfl HB.out
  · rw [hq] at hv
    by_cases hl : 0 < L.length
    · have hne : L.isEmpty = false := by cases L with | nil => simp at hl | cons x L => rfl
      rw [hne]
      simp only [Bool.not_false, Bool.and_self, if_true]
      have HNN := hid (HN.out hl hq)
      have hl0 : ((L.length : Int) == 0) = false := by rw [beq_eq_false_iff_ne]; omega
      clear HN hq hne
      generalize takeT L = M at *
      go_enter Try.func15, Try.ntmps15
      go_wp2_with fail
      refine hv.mono ?_
      rintro e w1 ⟨rfl, hb1⟩
      have HB := hid hb1
      have H1 := hid (H.out.next hb1)
      clear hb1
      go_wp2_with fail
      refine (HNN.out _ H1.out).mono ?_
      rintro e w2 ⟨A2, c2, rfl, h21, h22, o2, hb2⟩
      have HB2 := hid (chain HB.out hb2)
      have O2 := hid (o2.less HB.out.size)
      clear hb2 o2
      go_wp2
      go_ret2
      exact ⟨A2, c2, rfl, h21, h22, O2.out, HB2.out⟩
    · have hnil : L = [] := List.eq_nil_of_length_eq_zero (by omega)
      have hne : L.isEmpty = true := by rw [hnil]; rfl
      have hl0 : ((L.length : Int) == 0) = true := by rw [beq_iff_eq]; omega
      rw [hne]
      have HNIL := hid hnil
      clear hq HN hne hnil hl
      simp only [Bool.not_true, Bool.and_false, Bool.false_eq_true, if_false]
      go_enter Try.func15, Try.ntmps15
      go_wp2_with fail
      refine hv.mono ?_
      rintro e w1 ⟨rfl, hb1⟩
      have HB := hid hb1
      clear hb1
      go_wp2
      go_ret2
      exact GivesK.nil rfl HB.out
set_option maxHeartbeats 1000000 in
theorem specNextTask_any (A : Option Addr) (L : List TaskD) (c : Nat) (w : World) (hL : L.length ≤ 1048576) (h : Arr w w.heap.size 3 encTask A L) :
    Calls Try.prog 20 #[.slice A L.length c] w fun e w' => e = .returned (.int .i64 (nextV L)) ∧ Below w.heap.size w w' := by
  have hv := specvalidTasks_any A L c w hL h
  have HN := hid (fun (h1 : 0 < L.length) (h2 : validT L = true) W hW => nextAt_any A L c W hL h1 (validT_iff.1 h2).2.1 hW)
  have H := hid h
  have e0 : nextV L = if validT L then (if L.isEmpty then -1 else (nextT L).Id) else -1 := rfl
  clear h
  rw [e0]
  cases hq : validT L
  · rw [hq] at hv
    clear hq e0
    simp only [Bool.false_eq_true, if_false]
    go_enter Try.func20, Try.ntmps20
    go_wp2_with fail
    refine hv.mono ?_
    rintro e w1 ⟨rfl, hb1⟩
    have HB := hid hb1
    clear hb1
    go_wp2
    go_ret
    exact ⟨rfl, HB.out⟩
  · rw [hq] at hv
    simp only [if_true]
    by_cases hl : 0 < L.length
    · have hne : L.isEmpty = false := by cases L with | nil => simp at hl | cons x L => rfl
      rw [hne]
      simp only [Bool.false_eq_true, if_false]
      have HNN := hid (HN.out hl hq)
      have hl0 : ((L.length : Int) == 0) = false := by rw [beq_eq_false_iff_ne]; omega
      clear HN hq e0 hne
      generalize nextT L = m at *
      go_enter Try.func20, Try.ntmps20
      go_wp2_with fail
      refine hv.mono ?_
      rintro e w1 ⟨rfl, hb1⟩
      have HB := hid hb1
      have H1 := hid (H.out.next hb1)
      clear hb1
      go_wp2_with fail
      refine (HNN.out _ H1.out).mono ?_
      rintro e w2 ⟨k, rfl, hk, hkm, hb2⟩
      obtain ⟨b, off, y, rfl, hbb, hy, d1, d2, d3⟩ := (H1.out.next hb2).atTask hk
      have hym := hy.symm.trans hkm
      injection hym with hym
      have HYM := hid hym
      have HB2 := hid (chain HB.out hb2)
      have i1 : (0 : Int) ≤ (k : Int) := by omega
      have i2 : (k : Int) < (L.length : Int) := by omega
      clear hb2 hy hkm hym
      go_wp2
      go_ret
      exact ⟨by rw [← HYM.out]; rfl, HB2.out⟩
    · have hnil : L = [] := List.eq_nil_of_length_eq_zero (by omega)
      have hne : L.isEmpty = true := by rw [hnil]; rfl
      have hl0 : ((L.length : Int) == 0) = true := by rw [beq_iff_eq]; omega
      rw [hne]
      have HNIL := hid hnil
      clear hq HN e0 hne hnil hl
      simp only [if_true]
      go_enter Try.func20, Try.ntmps20
      go_wp2_with fail
      refine hv.mono ?_
      rintro e w1 ⟨rfl, hb1⟩
      have HB := hid hb1
      clear hb1
      go_wp2
      go_ret
      exact ⟨rfl, HB.out⟩
end Go.Proofs.Ythppgaglmgnocaa
