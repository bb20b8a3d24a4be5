/- The trees' functions by what they answer; values in and out of range. Written by a program of ours. -/
import Derived.Test.YtpahljbcffmaaaaB18
import Derived.Test.YtpahljbcffmaaaaQI
namespace Go.Proofs.Ytpahljbcffmaaaa
set_option linter.unusedVariables false
set_option linter.unusedSimpArgs false
open Go.RowKit Go.Lib

theorem Gives.n {C : List Int} {n : Nat} {w w' : World} {e : Ending} (hn : C.length = n) (h : Gives 1 encI C w e w') : ∃ A c, e = .returned (.slice A n c) ∧ n ≤ c ∧ c ≤ maxLen ∧ Arr w' w'.heap.size 1 encI A C ∧ Below w.heap.size w w' := by
  subst hn
  obtain ⟨A, c, h1, h2, h3, h4, h5⟩ := h
  exact ⟨A, c, h1, h2, h3, h4.arr, h5⟩
theorem equalInts_n (A A' : Option Addr) (C : List Int) (n n' c c' : Nat) (w : World) (hn : C.length = n) (hn' : C.length = n') (hL : n ≤ 1048576) (h : Arr w w.heap.size 1 encI A C) (h' : Arr w w.heap.size 1 encI A' C) :
    Calls Try.prog 25 #[.slice A n c, .slice A' n' c'] w fun e w' => e = .returned (.bool true) ∧ Below w.heap.size w w' := by
  subst hn hn'
  exact equalInts_same A A' C c c' w hL h h'
variable {T : List BoxD}
theorem at_in (v : ValidT T) {k : Nat} (hk : k < T.length) : atIn T (k : Int) = true := atIn_iff.2 ⟨v, by omega, by simpa using hk⟩
theorem depthV_in (v : ValidT T) {k : Nat} (hk : k < T.length) : depthV T (k : Int) = ((up T k).length : Int) - 1 := by
  unfold depthV
  rw [at_in v hk, if_pos rfl, Int.toNat_natCast]
theorem depthV_out {x : Int} (h : atIn T x = false) : depthV T x = -1 := by
  unfold depthV
  rw [h]
  rfl
theorem countV_in (v : ValidT T) {k : Nat} (hk : k < T.length) : countV T (k : Int) = (countN T T.length k : Int) := by
  unfold countV
  rw [at_in v hk, if_pos rfl, Int.toNat_natCast]
theorem countV_out {x : Int} (h : atIn T x = false) : countV T x = -1 := by
  unfold countV
  rw [h]
  rfl
theorem leafV_in (v : ValidT T) {k : Nat} (hk : k < T.length) : leafV T (k : Int) = nextLeafI T k := by
  unfold leafV
  rw [at_in v hk, if_pos rfl, Int.toNat_natCast]
theorem leafV_out {x : Int} (h : atIn T x = false) : leafV T x = -1 := by
  unfold leafV
  rw [h]
  rfl
theorem layV_in (v : ValidT T) {k : Nat} (hk : k < T.length) : layV T (k : Int) = (layRoot T k : Int) := by
  unfold layV
  rw [at_in v hk, if_pos rfl, Int.toNat_natCast]
theorem layV_out {x : Int} (h : atIn T x = false) : layV T x = -1 := by
  unfold layV
  rw [h]
  rfl
theorem kidsV_in (v : ValidT T) {k : Nat} (hk : k < T.length) : kidsV T (k : Int) = asI (kidsN T T.length k) := by
  unfold kidsV
  rw [at_in v hk, if_pos rfl, Int.toNat_natCast]
theorem kidsV_out {x : Int} (h : atIn T x = false) : kidsV T x = [] := by
  unfold kidsV
  rw [h]
  rfl
theorem pathV_in (v : ValidT T) {k : Nat} (hk : k < T.length) : pathV T (k : Int) = asI (pathOf T k) := by
  unfold pathV
  rw [at_in v hk, if_pos rfl, Int.toNat_natCast]
theorem pathV_out {x : Int} (h : atIn T x = false) : pathV T x = [] := by
  unfold pathV
  rw [h]
  rfl
theorem aroundV_in (v : ValidT T) {a k : Nat} (ha : a < T.length) (hk : k < T.length) : aroundV T (a : Int) (k : Int) = aroundB T a k := by
  unfold aroundV
  rw [at_in v ha, at_in v hk, Int.toNat_natCast, Int.toNat_natCast]
  rfl
theorem aroundV_out1 {x y : Int} (h : atIn T x = false) : aroundV T x y = false := by
  unfold aroundV
  rw [h]
  rfl
theorem aroundV_out2 {x y : Int} (h : atIn T y = false) : aroundV T x y = false := by
  unfold aroundV
  rw [h]
  cases atIn T x <;> rfl
theorem commonV_in (v : ValidT T) {a k : Nat} (ha : a < T.length) (hk : k < T.length) : commonV T (a : Int) (k : Int) = (common T a k : Int) := by
  unfold commonV
  rw [at_in v ha, at_in v hk, Int.toNat_natCast, Int.toNat_natCast]
  rfl
theorem commonV_out1 {x y : Int} (h : atIn T x = false) : commonV T x y = -1 := by
  unfold commonV
  rw [h]
  rfl
theorem commonV_out2 {x y : Int} (h : atIn T y = false) : commonV T x y = -1 := by
  unfold commonV
  rw [h]
  cases atIn T x <;> rfl
theorem depthV_zero (v : ValidT T) : depthV T 0 = 0 := by
  have h0 : 0 < T.length := v.pos
  have h := depthV_in v h0
  rw [up_zero v.ord.1 h0] at h
  exact h
theorem aroundV_root (v : ValidT T) {k : Nat} (hk : k < T.length) : aroundV T 0 (k : Int) = true :=
  (aroundV_in v (show 0 < T.length from v.pos) hk).trans (aroundB_iff.2 (up_root v.ord.1 k hk))
theorem countV_root (v : ValidT T) : countV T 0 = (T.length : Int) := by
  have h0 : 0 < T.length := v.pos
  have h := countV_in v h0
  rw [count_root v.ord h0] at h
  exact h
theorem commonV_root (v : ValidT T) {k : Nat} (hk : k < T.length) : commonV T 0 (k : Int) = 0 := by
  have h0 : 0 < T.length := v.pos
  have h := commonV_in v h0 hk
  rw [common_root v.ord.1 hk] at h
  exact h
theorem depthOf_eq {A : Option Addr} {c : Nat} {x n : Int} {w : World} (hL : T.length ≤ 1048576) (h : Arr w w.heap.size 9 encBox A T) (hv : depthV T x = n) :
    Calls Try.prog 28 #[.slice A T.length c, .int .i64 x] w fun e w' => e = .returned (.int .i64 n) ∧ Below w.heap.size w w' := by
  subst hv
  exact depthOf_any A T c x w hL h
theorem depthOfS_eq {A : Option Addr} {c : Nat} {x n : Int} {w : World} (hL : T.length ≤ 1048576) (h : Arr w w.heap.size 9 encBox A T) (hv : depthV T x = n) :
    Calls Try.prog 29 #[.slice A T.length c, .int .i64 x] w fun e w' => e = .returned (.int .i64 n) ∧ Below w.heap.size w w' := by
  subst hv
  exact depthOfS_any A T c x w hL h
theorem countIn_eq {A : Option Addr} {c : Nat} {x n : Int} {w : World} (hL : T.length ≤ 1048576) (h : Arr w w.heap.size 9 encBox A T) (hv : countV T x = n) :
    Calls Try.prog 18 #[.slice A T.length c, .int .i64 x] w fun e w' => e = .returned (.int .i64 n) ∧ Below w.heap.size w w' := by
  subst hv
  exact countIn_any A T c x w hL h
theorem countInS_eq {A : Option Addr} {c : Nat} {x n : Int} {w : World} (hL : T.length ≤ 1048576) (h : Arr w w.heap.size 9 encBox A T) (hv : countV T x = n) :
    Calls Try.prog 16 #[.slice A T.length c, .int .i64 x] w fun e w' => e = .returned (.int .i64 n) ∧ Below w.heap.size w w' := by
  subst hv
  exact countInS_any A T c x w hL h
theorem kidsOf_eq {A : Option Addr} {c : Nat} {x : Int} {C : List Int} {n : Nat} {w : World} (hL : T.length ≤ 1048576) (h : Arr w w.heap.size 9 encBox A T) (hv : kidsV T x = C) (hn : C.length = n) :
    Calls Try.prog 24 #[.slice A T.length c, .int .i64 x] w fun e w' => ∃ A' c', e = .returned (.slice A' n c') ∧ n ≤ c' ∧ c' ≤ maxLen ∧ Arr w' w'.heap.size 1 encI A' C ∧ Below w.heap.size w w' := by
  subst hv
  exact (kidsOf_any A T c x w hL h).mono fun e w' h => Gives.n hn h
theorem kidsOfS_eq {A : Option Addr} {c : Nat} {x : Int} {C : List Int} {n : Nat} {w : World} (hL : T.length ≤ 1048576) (h : Arr w w.heap.size 9 encBox A T) (hv : kidsV T x = C) (hn : C.length = n) :
    Calls Try.prog 26 #[.slice A T.length c, .int .i64 x] w fun e w' => ∃ A' c', e = .returned (.slice A' n c') ∧ n ≤ c' ∧ c' ≤ maxLen ∧ Arr w' w'.heap.size 1 encI A' C ∧ Below w.heap.size w w' := by
  subst hv
  exact (kidsOfS_any A T c x w hL h).mono fun e w' h => Gives.n hn h
theorem pathTo_eq {A : Option Addr} {c : Nat} {x : Int} {C : List Int} {n : Nat} {w : World} (hL : T.length ≤ 1048576) (h : Arr w w.heap.size 9 encBox A T) (hv : pathV T x = C) (hn : C.length = n) :
    Calls Try.prog 34 #[.slice A T.length c, .int .i64 x] w fun e w' => ∃ A' c', e = .returned (.slice A' n c') ∧ n ≤ c' ∧ c' ≤ maxLen ∧ Arr w' w'.heap.size 1 encI A' C ∧ Below w.heap.size w w' := by
  subst hv
  exact (pathTo_any A T c x w hL h).mono fun e w' h => Gives.n hn h
theorem pathToS_eq {A : Option Addr} {c : Nat} {x : Int} {C : List Int} {n : Nat} {w : World} (hL : T.length ≤ 1048576) (h : Arr w w.heap.size 9 encBox A T) (hv : pathV T x = C) (hn : C.length = n) :
    Calls Try.prog 36 #[.slice A T.length c, .int .i64 x] w fun e w' => ∃ A' c', e = .returned (.slice A' n c') ∧ n ≤ c' ∧ c' ≤ maxLen ∧ Arr w' w'.heap.size 1 encI A' C ∧ Below w.heap.size w w' := by
  subst hv
  exact (pathToS_any A T c x w hL h).mono fun e w' h => Gives.n hn h
theorem isAround_eq {A : Option Addr} {c : Nat} {x y : Int} {r : Bool} {w : World} (hL : T.length ≤ 1048576) (h : Arr w w.heap.size 9 encBox A T) (hv : aroundV T x y = r) :
    Calls Try.prog 31 #[.slice A T.length c, .int .i64 x, .int .i64 y] w fun e w' => e = .returned (.bool r) ∧ Below w.heap.size w w' := by
  subst hv
  exact isAround_any A T c x y w hL h
theorem isAroundS_eq {A : Option Addr} {c : Nat} {x y : Int} {r : Bool} {w : World} (hL : T.length ≤ 1048576) (h : Arr w w.heap.size 9 encBox A T) (hv : aroundV T x y = r) :
    Calls Try.prog 32 #[.slice A T.length c, .int .i64 x, .int .i64 y] w fun e w' => e = .returned (.bool r) ∧ Below w.heap.size w w' := by
  subst hv
  exact isAroundS_any A T c x y w hL h
theorem validTree_n {A : Option Addr} {c n : Nat} {r : Bool} {w : World} (hn : n = T.length) (hL : T.length ≤ 1048576) (h : Arr w w.heap.size 9 encBox A T) (hv : validB T = r) :
    Calls Try.prog 21 #[.slice A n c] w fun e w' => e = .returned (.bool r) ∧ Below w.heap.size w w' := by
  subst hn hv
  exact validTree_any A T c w hL h
theorem validTreeS_n {A : Option Addr} {c n : Nat} {r : Bool} {w : World} (hn : n = T.length) (hL : T.length ≤ 1048576) (h : Arr w w.heap.size 9 encBox A T) (hv : validB T = r) :
    Calls Try.prog 22 #[.slice A n c] w fun e w' => e = .returned (.bool r) ∧ Below w.heap.size w w' := by
  subst hn hv
  exact specValidTreeX_any A T c w hL h
end Go.Proofs.Ytpahljbcffmaaaa
