/- impl.PushTask at a task that the queue doesn't have: the walk. -/
import Derived.Test.YthppgaglmgnocaaKP4
namespace Go.Proofs.Ythppgaglmgnocaa
set_option linter.unusedVariables false
set_option linter.unusedSimpArgs false
open Go.RowKit Go.Lib

theorem insert_any (base : Nat) (A : Option Addr) (L : List TaskD) (c j gv : Nat) (x : TaskD) (w : World) (own : w.ownsRow base 31 3 (.slice A L.length c) L.length (L.flatMap encTask)) (hl : L.length ≤ 1000) (hj : j ≤ L.length) (hbase : base ≤ w.heap.size)
    (hv : w.heap[gv]? = some (.cells #[.int .i64 x.Id, .int .i64 x.Rank, .int .i64 x.Age] 31 (0, 0))) (hne : ∀ q, (Value.slice A L.length c).ownBlock = some q → gv ≠ q) :
    Calls Try.prog 46 #[.slice A L.length c, .int .i64 (j : Int), .slice (some ⟨gv, 0, none⟩) 1 1] w (Inserted base (insT L j x) w) := by
  by_cases hjl : j = L.length
  · subst hjl
    exact insert_end base A L c gv x w own hl hbase hv
  · rcases own.2 with ⟨h1, h2⟩ | ⟨g, cap, cur, h1, hb, hg, h2, h3, h4, h5⟩
    · omega
    · injection h1 with h1 _ h6
      subst h1 h6
      by_cases hroom : L.length + 1 ≤ c
      · exact insert_room base g c j gv L x cur w (by omega) hl hroom h3 hg h4 h5 hb hv (hne g rfl)
      · exact insert_grow base g c j gv L x cur w (by omega) hl h2 (by omega) hg h4 h5 hbase hv

/-- What PushTask leaves. -/
def PushedF (L : List TaskD) (x : TaskD) (w : World) (e : Ending) (w' : World) : Prop :=
  ∃ (j : Nat) (A' : Option Addr) (n' : Nat), e = .returned (.tuple #[.slice A' n' n', .bool true]) ∧ j ≤ L.length ∧ n' = L.length + 1 ∧ OwnA w' w.heap.size 3 encTask A' (insT L j x) ∧ Below w.heap.size w w'

set_option maxHeartbeats 2000000 in
theorem pushTask_fresh (A : Option Addr) (L : List TaskD) (c : Nat) (id rank : Int) (w : World) (hv : validT L = true) (hl9 : L.length ≤ 9) (hi : 0 ≤ id ∧ id ≤ 99) (hr : 0 ≤ rank ∧ rank ≤ 50) (hne : ∀ t ∈ L, t.Id ≠ id) (h : Arr w w.heap.size 3 encTask A L) :
    Calls Try.prog 17 #[.slice A L.length c, .int .i64 id, .int .i64 rank] w (PushedF L ⟨id, rank, 0⟩ w) := by
  have hval := validTasks_any A L c w (by omega) h
  rw [hv] at hval
  have hio : ∀ W, Calls Try.prog 40 #[.int .i64 id] W fun e w' => e = .returned (.bool (inR id 0 99)) ∧ W = w' := fun W => (idOk_any id W).mono fun _ _ ⟨h1, h2⟩ => ⟨h1, h2.symm⟩
  have hro : ∀ W, Calls Try.prog 41 #[.int .i64 rank] W fun e w' => e = .returned (.bool (inR rank 0 50)) ∧ W = w' := fun W => (rankOk_any rank W).mono fun _ _ ⟨h1, h2⟩ => ⟨h1, h2.symm⟩
  rw [inR_iff.2 hi] at hio
  rw [inR_iff.2 hr] at hro
  have HIO := hid hio
  have HRO := hid hro
  have HCL := hid (fun A c W hW => clone_any A L c W (by omega) hW)
  have HSE := hid (fun A c W hW => search_any A L c id W (by omega) hne hW)
  have HIN := hid (fun base A c j gv W own hj hb hv hn => insert_any base A L c j gv ⟨id, rank, 0⟩ W own (by omega) hj hb hv hn)
  have HIT := hid (fun j (hj : j ≤ L.length) => insT_len (x := ⟨id, rank, 0⟩) hj)
  have H := hid h
  clear h hv hio hro hne hi hr
  go_enter Try.func17, Try.ntmps17
  go_wp2_with fail
  refine hval.mono ?_
  rintro e w1 ⟨rfl, b1⟩
  have B1 := hid b1
  have H1 := hid (H.out.next b1)
  clear b1 hval
  go_wp2_with (first | ((with_reducible refine (HIO.out _).mono ?_); rintro e w' ⟨rfl, rfl⟩) | ((with_reducible refine (HRO.out _).mono ?_); rintro e w' ⟨rfl, rfl⟩))
  refine (HCL.out _ _ _ H1.out).mono ?_
  rintro e w2 ⟨A2, n2, c2, rfl, hn2, own2, b2⟩
  subst hn2
  have B2 := hid (chain B1.out b2)
  have BB2 := hid b2
  have O2 := hid own2
  have S1 := hid B1.out.size
  have S2 := hid b2.size
  have se := HSE.out A2 c2 w2 (OwnA.of_rowN (enc := encTask) (k := 3) (fun _ => rfl) rfl rfl own2).arr
  clear own2 b2
  go_wp2_with fail
  refine se.mono ?_
  rintro e w3 ⟨j, rfl, hj, b3⟩
  have B3 := hid (chain B2.out b3)
  have B33 := hid b3
  have O3 := hid (row_next O2.out b3)
  have S3 := hid b3.size
  clear b3 se
  go_wp2_with fail
  refine (HIN.out w1.heap.size A2 c2 j w3.heap.size _ (O3.out.alloc _) hj (Nat.le_trans S2.out (Nat.le_trans S3.out (by simp))) (heap_alloc_new w3 _) (fun q hq e => by have := (O3.out.lt q hq).2; omega)).mono ?_
  rintro e w4 ⟨A4, n4, c4, rfl, hn4, h41, h42, o4, b4⟩
  rw [HIT.out j hj] at hn4
  subst hn4
  have O4 := hid o4
  have B4 := hid ((B1.out).trans ((show Below w1.heap.size w1 w4 from ((Below.refl w1.heap.size w1).trans (show Below w1.heap.size w1 w4 from by
    have hb3 : Below w1.heap.size w1 w3 := ((show Below w1.heap.size w1 w2 from BB2.out)).trans (B33.out.mono S2.out)
    exact (hb3.alloc hb3.size _).trans b4))).mono S1.out))
  have hle : (L.length : Int) + 1 ≤ 10 := by omega
  clear o4 b4 h42
  go_wp2_with (go_at_call 47; refine (clipTask_any _ _ _ _ h41).mono ?_; rintro e w' ⟨rfl, rfl⟩)
  go_ret2
  exact ⟨j, A4, L.length + 1, rfl, hj, rfl, O4.out.less B1.out.size, B4.out⟩
end Go.Proofs.Ythppgaglmgnocaa
