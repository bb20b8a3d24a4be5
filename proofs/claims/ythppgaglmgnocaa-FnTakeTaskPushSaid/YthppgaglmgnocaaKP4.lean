/- impl.PushTask at a task that the queue doesn't have. -/
import Derived.Test.YthppgaglmgnocaaKP3
namespace Go.Proofs.Ythppgaglmgnocaa
set_option linter.unusedVariables false
set_option linter.unusedSimpArgs false
open Go.RowKit Go.Lib

set_option maxHeartbeats 1000000 in
theorem pushCmp_any (t : TaskD) (id : Int) (w : World) :
    Calls Try.prog 44 #[.agg #[.int .i64 t.Id, .int .i64 t.Rank, .int .i64 t.Age], .int .i64 id] w fun e w' => e = .returned (.int .i64 (cmpI t.Id id)) ∧ Below w.heap.size w w' := by
  go_enter Try.func44, Try.ntmps44
  go_wp2_with (go_at_call 45; refine (compare_any _ _ _).mono ?_; rintro e w' ⟨rfl, rfl⟩)
  go_ret
  exact ⟨rfl, (Below.refl _ _).alloc (Nat.le_refl _) _⟩

theorem cmpI_ne {a b : Int} (h : a ≠ b) : (cmpI a b == 0) = false := by
  unfold cmpI
  split
  · rfl
  · split
    · rfl
    · exact absurd (by omega) h

/-- What the search leaves: a place; that the task isn't there. -/
def Sought (n : Nat) (w : World) (e : Ending) (w' : World) : Prop := ∃ j : Nat, e = .returned (.tuple #[.int .i64 (j : Int), .bool false]) ∧ j ≤ n ∧ Below w.heap.size w w'

set_option maxHeartbeats 2000000 in
theorem search_any (A : Option Addr) (L : List TaskD) (c : Nat) (id : Int) (w : World) (hL : L.length ≤ 1048576) (hne : ∀ t ∈ L, t.Id ≠ id) (h : Arr w w.heap.size 3 encTask A L) :
    Calls Try.prog 43 #[.slice A L.length c, .int .i64 id, .func (.func 44) #[] #[]] w (Sought L.length w) := by
  have H := hid h
  have NE := hid hne
  have eg := enters_of Try.func44 (by kernel_rfl) rfl
  clear h hne
  go_enter Try.func43, Try.ntmps43
  go_wp2
  go_loopg [9, 10, 11] L.length (fun gg s9 s10 _ wr => ∃ lo hi : Nat, s9 = .int .i64 lo ∧ s10 = .int .i64 hi ∧ lo ≤ hi ∧ hi ≤ L.length ∧ hi - lo ≤ gg ∧ Aside (Below w.heap.size w wr))
  case atStart => exact ⟨0, L.length, rfl, rfl, Nat.zero_le _, Nat.le_refl _, by omega, Below.refl _ _⟩
  case round =>
    obtain ⟨lo, hi, rfl, rfl, hlh, hin, hgg, R⟩ := hrel
    by_cases hlt : lo < hi
    · obtain ⟨k, hk⟩ : ∃ k : Nat, k = (lo + hi) / 2 := ⟨_, rfl⟩
      have hk1 : lo ≤ k := by omega
      have hk2 : k < hi := by omega
      have hk3 : ((lo : Int) + (hi : Int)) / 2 = (k : Int) := by omega
      have hk4 : (lo + hi) / 2 = k := hk.symm
      clear hk
      have kl : k < L.length := by omega
      have hx := List.getElem?_eq_getElem kl
      obtain ⟨b, off, rfl, hb, hc⟩ := (H.out.below R.out).at_ hx
      generalize L[k] = x at hx hc
      have c0 : wr.cell? ⟨b, off + k * 3, none⟩ = some (.int .i64 x.Id) := by simpa using hc 0 _ rfl
      have c1 : wr.cell? ⟨b, off + k * 3 + 1, none⟩ = some (.int .i64 x.Rank) := by simpa using hc 1 _ rfl
      have c2 : wr.cell? ⟨b, off + k * 3 + 2, none⟩ = some (.int .i64 x.Age) := by simpa using hc 2 _ rfl
      have hcall := hid (fun W => pushCmp_any x id W)
      have hbd := cmpI_bd x.Id id
      have k1 : (0 : Int) ≤ (k : Int) := by omega
      have k2 : (k : Int) < (L.length : Int) := by omega
      clear hx hc
      generalize cmpI x.Id id = q at *
      by_cases hq : q < 0
      · go_wp2_with (go_at_call 44; refine (hcall.out _).mono ?_; rintro e w' ⟨rfl, hb'⟩)
        go_roundg (hi - (k + 1))
        case measure => omega
        case rel => exact ⟨k + 1, hi, by go_num, rfl, by omega, hin, Nat.le_refl _, R.out.trans (hb'.mono R.out.size)⟩
      · go_wp2_with (go_at_call 44; refine (hcall.out _).mono ?_; rintro e w' ⟨rfl, hb'⟩)
        go_roundg (k - lo)
        case measure => omega
        case rel => exact ⟨lo, k, rfl, rfl, by omega, by omega, Nat.le_refl _, R.out.trans (hb'.mono R.out.size)⟩
    · obtain rfl : lo = hi := by omega
      by_cases hn : lo < L.length
      · have hx := List.getElem?_eq_getElem hn
        obtain ⟨b, off, rfl, hb, hc⟩ := (H.out.below R.out).at_ hx
        have hne := NE.out _ (List.mem_of_getElem? hx)
        generalize L[lo] = x at hx hc hne
        have c0 : wr.cell? ⟨b, off + lo * 3, none⟩ = some (.int .i64 x.Id) := by simpa using hc 0 _ rfl
        have c1 : wr.cell? ⟨b, off + lo * 3 + 1, none⟩ = some (.int .i64 x.Rank) := by simpa using hc 1 _ rfl
        have c2 : wr.cell? ⟨b, off + lo * 3 + 2, none⟩ = some (.int .i64 x.Age) := by simpa using hc 2 _ rfl
        have hcall := hid (fun W => pushCmp_any x id W)
        have hq := cmpI_ne hne
        have k1 : (0 : Int) ≤ (lo : Int) := by omega
        have k2 : (lo : Int) < (L.length : Int) := by omega
        clear hx hc hne
        generalize cmpI x.Id id = q at *
        go_wp2_with (go_at_call 44; refine (hcall.out _).mono ?_; rintro e w' ⟨rfl, hb'⟩)
        go_ret2
        exact ⟨lo, rfl, hin, R.out.trans (hb'.mono R.out.size)⟩
      · go_wp2
        go_ret2
        exact ⟨lo, rfl, hin, R.out⟩

/-- What Clone leaves. -/
def ClonedK (L : List TaskD) (w : World) (e : Ending) (w' : World) : Prop :=
  ∃ A' n' c', e = .returned (.slice A' n' c') ∧ n' = L.length ∧ w'.ownsRow w.heap.size 31 3 (.slice A' n' c') n' (L.flatMap encTask) ∧ Below w.heap.size w w'
set_option maxHeartbeats 1000000 in
theorem clone_any (A : Option Addr) (L : List TaskD) (c : Nat) (w : World) (hL : L.length ≤ 1000) (h : Arr w w.heap.size 3 encTask A L) :
    Calls Try.prog 42 #[.slice A L.length c] w (ClonedK L w) := by
  have H := hid h
  have q22 : ∀ (w : World) (a : Option Addr) (n c n' c' : Nat), (binOp .eql 23 (.slice a n c) (.slice none n' c')).run Try.prog w = .ok (.bool a.isNone) w := fun w a n c n' c' => Lib.run_eql_slice_nil w _ _ a n c n' c' Try.underlying23
  cases A with
  | none =>
    have h0 : L.length = 0 := by
      rcases Nat.eq_zero_or_pos L.length with h0 | h0
      · exact h0
      · obtain ⟨b, off, e, _⟩ := h h0
        cases e
    obtain rfl := List.eq_nil_of_length_eq_zero h0
    clear h h0
    go_enter Try.func42, Try.ntmps42
    go_wp2
    go_ret
    exact ⟨none, 0, 0, rfl, rfl, ⟨rfl, .inl ⟨rfl, rfl⟩⟩, Below.refl _ _⟩
  | some a =>
    clear h
    have own0 := World.ownsRow_made (e := 31) (size := 3) (base := w.heap.size) w #[] 0 (Nat.le_refl _) (by simp [maxLen]) rfl
    have OWN := hid own0
    have H2 := hid (H.out.next ((Below.refl w.heap.size w).alloc (Nat.le_refl _) (.cells #[] 31)))
    clear own0
    go_enter Try.func42, Try.ntmps42
    go_wp2_with (at_builtin; refine wpList_append_arr _ eltTaskK rfl _ _ rfl w.heap.size _ 0 L.length _ rfl OWN.out encTask (fun _ => rfl) oneTask _ _ L L.length c rfl rfl H2.out (by omega) (by omega) (by simp) ?_; intro A' c' w' own' gr' at')
    go_ret
    exact ⟨A', L.length, c', rfl, rfl, by simpa using own', ((Below.refl w.heap.size w).alloc (Nat.le_refl _) _).grown gr' (by simp) (fun q hq => (OWN.out.lt q hq).1)⟩
end Go.Proofs.Ythppgaglmgnocaa
