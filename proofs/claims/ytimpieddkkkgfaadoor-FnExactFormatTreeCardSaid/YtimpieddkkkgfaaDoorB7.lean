/- Valid trees: impl.ValidTree. -/
import Derived.Test.YtimpieddkkkgfaaDoorB6
namespace Go.Proofs.YtimpieddkkkgfaaDoor
set_option linter.unusedVariables false
set_option linter.unusedSimpArgs false
open Go.RowKit Go.Lib

/-- The beginning of a region's walk, what has come up being written out. -/
theorem held_begin {P : Program} {ops : Array Oper} {Q : Exit → Act → World → Prop} {S : World → Prop} {id : Nat} {a : Act} {w : World} {n : Nat} {L : List Bool} (hm : P.follows .mixedOrders = true) (hS : S w.drew) (hn : ops.size = n) (hL : Array.replicate n false = L.toArray)
    (h : S w.drew → wpAnyH P .any ops Q S n L.toArray a w.drew) : (Code.region id ops true).wp P Q a w := by
  subst hn
  refine wp_region_held_drew hm hS ?_
  rw [hL]
  exact h

/-- An operation that is taken first, its slot named. -/
theorem held_take {P : Program} {ops : Array Oper} {Q : Exit → Act → World → Prop} {md : Region.Mode} {S : World → Prop} {i d : Nat} {oi : Oper} {v : Value} {fuel : Nat} {listed : Array Bool} {a : Act} {w : World} (hi : ops[i]? = some oi) (hd : oi.dst = some d)
    (hs : Region.noSelect ops = true) (hf : Region.free md ops listed i = true) (hr : (Region.ready md ops listed).contains i = true)
    (hQ : ∀ c a w, Q (.panic c) (a.put oi.dst v) w → Q (.panic c) a w) (hy : YieldsIf P ops S oi v a) (hS : S w)
    (h : wpAnyH P md ops Q S fuel (listed.setIfInBounds i true) ⟨a.tmps.setIfInBounds d v, a.defers⟩ w) : wpAnyH P md ops Q S (fuel + 1) listed a w := by
  refine wpAnyH_take hi hs hf hr hQ hy hS ?_
  have e : a.put oi.dst v = ⟨a.tmps.setIfInBounds d v, a.defers⟩ := by rw [hd]; rfl
  rw [e]
  exact h

/-- What leaves a slice of some length. -/
def SliceN (n : Nat) (w : World) (e : Ending) (w' : World) : Prop := ∃ A c, e = .returned (.slice A n c) ∧ Below w.heap.size w w'
theorem SliceN.of {k : Nat} {enc : Int → List Value} {L : List Int} {w : World} {e : Ending} {w' : World} (h : Gives k enc L w e w') : SliceN L.length w e w' := by
  obtain ⟨A, c, h1, -, -, -, h2⟩ := h
  exact ⟨A, c, h1, h2⟩

theorem lt_of_below {w w2 : World} {o : Obj} (h : Below (w.alloc o).drew.heap.size (w.alloc o).drew w2) : w.heap.size < w2.heap.size := by
  have h1 : (w.alloc o).drew.heap.size = w.heap.size + 1 := by
    show (w.alloc o).heap.size = _
    simp
  have := h.size
  omega

/-- The first loop's relation. -/
def VT1 (w : World) (T : List BoxD) (i : Nat) (wr : World) : Prop :=
  InOrd T i ∧ (∀ j, j < i → styledB (boxAt T j) = true) ∧ (∀ j, j < i → (up T j).length ≤ 6) ∧ Below w.heap.size w wr
theorem ord_next {T : List BoxD} {i : Nat} (h : InOrd T i) (h0 : i = 0 → par T 0 = -1) (h1 : 0 < i → (0 ≤ par T i ∧ par T i < (i : Int)) ∧ (par T i).toNat ∈ up T (i - 1)) : InOrd T (i + 1) := by
  refine ⟨fun j hj => ?_, fun j j0 hj => ?_⟩
  · by_cases e : j = i
    · subst e
      exact ⟨fun e => by subst e; exact h0 rfl, fun h => (h1 h).1⟩
    · exact h.1 j (by omega)
  · by_cases e : j = i
    · subst e
      exact (h1 j0).2
    · exact h.2 j j0 (by omega)
theorem VT1.next {w wr wr' : World} {T : List BoxD} {i : Nat} (h : VT1 w T i wr) (ho : InOrd T (i + 1)) (hs : styledB (boxAt T i) = true) (hd : (up T i).length ≤ 6) (hb : Below w.heap.size w wr') : VT1 w T (i + 1) wr' :=
  ⟨ho, fun j hj => by
    by_cases e : j = i
    · subst e; exact hs
    · exact h.2.1 j (by omega), fun j hj => by
    by_cases e : j = i
    · subst e; exact hd
    · exact h.2.2.1 j (by omega), hb⟩

abbrev boxCells (x : BoxD) : Array Value := #[.int .i64 x.Parent, .int .i64 x.Kind, .int .i64 x.W, .int .i64 x.H, .int .i64 x.Pad, .int .i64 x.Gap, .int .i64 x.Grow, .int .i64 x.Shrink, .int .i64 x.Justify]
/-- The cells of a box that lies in a block of its own. -/
theorem cells9 {w' : World} {g : Nat} {x : BoxD} {e : TypeId} (h1 : w'.heap[g]? = some (.cells #[.int .i64 x.Parent, .int .i64 x.Kind, .int .i64 x.W, .int .i64 x.H, .int .i64 x.Pad, .int .i64 x.Gap, .int .i64 x.Grow, .int .i64 x.Shrink, .int .i64 x.Justify] e (0, 0))) :
    w'.cell? ⟨g, 0, none⟩ = some (.int .i64 x.Parent) ∧ w'.cell? ⟨g, 1, none⟩ = some (.int .i64 x.Kind) ∧ w'.cell? ⟨g, 2, none⟩ = some (.int .i64 x.W) ∧ w'.cell? ⟨g, 3, none⟩ = some (.int .i64 x.H) ∧ w'.cell? ⟨g, 4, none⟩ = some (.int .i64 x.Pad) ∧ w'.cell? ⟨g, 5, none⟩ = some (.int .i64 x.Gap) ∧ w'.cell? ⟨g, 6, none⟩ = some (.int .i64 x.Grow) ∧ w'.cell? ⟨g, 7, none⟩ = some (.int .i64 x.Shrink) ∧ w'.cell? ⟨g, 8, none⟩ = some (.int .i64 x.Justify) := by
  refine ⟨?_, ?_, ?_, ?_, ?_, ?_, ?_, ?_, ?_⟩
  all_goals (rw [cell_of_row w' _ _ _ _ _ h1]; rfl)

set_option maxHeartbeats 8000000 in
theorem validTree_any (A : Option Addr) (T : List BoxD) (c : Nat) (w : World) (hL : T.length ≤ 1048576) (h : Arr w w.heap.size 9 encBox A T) :
    Calls Tryd.prog 13 #[.slice A T.length c] w fun e w' => e = .returned (.bool (validB T)) ∧ Below w.heap.size w w' := by
  have H := hid h
  have NO := hid (fun h => validB_no (T := T) h)
  have YES := hid (fun h => (validB_iff (T := T)).2 h)
  clear h
  generalize validB T = res at *
  have hq := withinB_any (T.length : Int) 1 16
  cases h1 : inR (T.length : Int) 1 16
  · have hr := NO.out (fun v => by have := inR_false.1 h1; have := v.pos; have := v.len; omega)
    subst hr
    rw [h1] at hq
    clear h1 NO YES
    go_enter Tryd.func13, Tryd.ntmps13
    go_wp2_with fail
    refine (hq _).mono ?_
    rintro e w' ⟨rfl, rfl⟩
    go_wp2
    go_ret
    exact ⟨rfl, Below.refl _ _⟩
  · have hb16 := inR_iff.1 h1
    obtain ⟨l1, l2⟩ := hb16
    rw [h1] at hq
    obtain ⟨b, off, x0, rfl, hb, hx0, d0, -⟩ := H.out.atBox (show 0 < T.length by omega)
    simp only [Nat.zero_mul, Nat.add_zero] at d0
    have hp0 := par_of hx0
    clear h1 hx0
    have hl0 : (0 : Int) < (T.length : Int) := by omega
    have hl0' : 0 < T.length := by omega
    by_cases hpar : x0.Parent = -1
    · have hne : (x0.Parent != -1) = false := by rw [hpar]; rfl
      have HP0 := hid (hp0.trans hpar)
      clear hpar hp0
      go_enter Tryd.func13, Tryd.ntmps13
      go_wp2_with fail
      refine (hq _).mono ?_
      rintro e w' ⟨rfl, rfl⟩
      clear hq
      go_wp2
      go_loopg [21] T.length (fun gg s21 wr => ∃ i : Nat, i ≤ T.length ∧ T.length - i ≤ gg ∧ s21 = .int .i64 i ∧ Aside (VT1 w T i wr))
      case atStart => exact ⟨0, Nat.zero_le _, by omega, rfl, ⟨fun j hj => absurd hj (Nat.not_lt_zero _), fun j _ hj => absurd hj (Nat.not_lt_zero _)⟩, fun j hj => absurd hj (Nat.not_lt_zero _), fun j hj => absurd hj (Nat.not_lt_zero _), Below.refl _ _⟩
      case round =>
        obtain ⟨i, hi, hgg, rfl, R⟩ := hrel
        have hsz := R.out.2.2.2.size
        by_cases hlt : i < T.length
        · obtain ⟨x, hx, hbw, e0, e1, e2, e3, e4, e5, e6, e7, e8⟩ := (H.out.below R.out.2.2.2).litBox hlt
          have hxb := boxAt_of hx
          have hxp := par_of hx
          have i1 : (0 : Int) ≤ (i : Int) := by omega
          have i2 : (i : Int) < (T.length : Int) := by omega
          have HXB := hid hxb
          have HXP := hid hxp
          have hst := fun W => styled_any x W
          have HBA := hid (R.out.2.2.2.alloc hsz (.cells #[.int .i64 x.Parent, .int .i64 x.Kind, .int .i64 x.W, .int .i64 x.H, .int .i64 x.Pad, .int .i64 x.Gap, .int .i64 x.Grow, .int .i64 x.Shrink, .int .i64 x.Justify] 33))
          have HSA := hid HBA.out.size
          have HM := hid (heap_alloc_new wr (.cells #[.int .i64 x.Parent, .int .i64 x.Kind, .int .i64 x.W, .int .i64 x.H, .int .i64 x.Pad, .int .i64 x.Gap, .int .i64 x.Grow, .int .i64 x.Shrink, .int .i64 x.Justify] 33))
          obtain ⟨m0, m1, m2, m3, m4, m5, m6, m7, m8⟩ := cells9 HM.out
          clear hx hxb hxp
          cases q1 : styledB x
          · rw [q1] at hst
            have HST := hid hst
            have hr := NO.out (fun v => by have := v.sty i hlt; rw [HXB.out, q1] at this; cases this)
            subst hr
            clear q1 hst NO YES
            go_wp2_with fail
            refine wp_region_noPanic ?_
            refine held_begin (S := (fun w' => w'.cell? ⟨wr.heap.size, 0, none⟩ = some (.int .i64 x.Parent) ∧ w'.cell? ⟨wr.heap.size, 1, none⟩ = some (.int .i64 x.Kind) ∧ w'.cell? ⟨wr.heap.size, 2, none⟩ = some (.int .i64 x.W) ∧ w'.cell? ⟨wr.heap.size, 3, none⟩ = some (.int .i64 x.H) ∧ w'.cell? ⟨wr.heap.size, 4, none⟩ = some (.int .i64 x.Pad) ∧ w'.cell? ⟨wr.heap.size, 5, none⟩ = some (.int .i64 x.Gap) ∧ w'.cell? ⟨wr.heap.size, 6, none⟩ = some (.int .i64 x.Grow) ∧ w'.cell? ⟨wr.heap.size, 7, none⟩ = some (.int .i64 x.Shrink) ∧ w'.cell? ⟨wr.heap.size, 8, none⟩ = some (.int .i64 x.Justify))) (L := [false, false, false, false, false, false, false, false, false, false, false, false, false, false, false, false, false, false, false, false, false, false, false, false]) (n := 24) (by kernel_rfl) ?_ rfl rfl (fun hHeld => ?_)
            · (go_keep)
            refine held_take (i := 0) (d := 26) (v := ?_) rfl rfl (by kernel_rfl) (by kernel_rfl) (by kernel_rfl) (fun _ _ _ h => h) (Or.inl ⟨by kernel_rfl, ?_⟩) hHeld ?_
            rotate_left
            · (intro w hSw; (try dsimp only at hSw); go_simp; first | done | with_reducible rfl)
            simp only [List.setIfInBounds_toArray, List.set_cons_zero, List.set_cons_succ]
            refine wpAnyH_ready (rs := [1]) (by kernel_rfl) (by simp) ?_
            refine AllReadyH.cons rfl (fun K hK => ?_) AllReadyH.nil
            go_simp
            ((with_reducible refine (HST.out _).mono ?_); rintro e w2 ⟨rfl, hb2⟩; have M2 := hid ((hb2.block wr.heap.size (by simp)).trans HM.out); have BW2 := hid (HBA.out.trans ((below_undrew hb2).mono HSA.out)); obtain ⟨k0, k1, k2, k3, k4, k5, k6, k7, k8⟩ := cells9 M2.out; have HS2 : wr.heap.size < w2.heap.size := lt_of_below hb2; clear hb2; dsimp only)
            refine hK.out _ _ ?_ (fun hHeld => ?_)
            · ((try dsimp only); go_keep)
            clear hK K
            try simp only [List.setIfInBounds_toArray, List.set_cons_zero, List.set_cons_succ]
            refine held_take (i := 2) (d := 28) (v := ?_) rfl rfl (by kernel_rfl) (by kernel_rfl) (by kernel_rfl) (fun _ _ _ h => h) (Or.inl ⟨by kernel_rfl, ?_⟩) hHeld ?_
            rotate_left
            · (intro w hSw; (try dsimp only at hSw); go_simp; first | done | with_reducible rfl)
            simp only [List.setIfInBounds_toArray, List.set_cons_zero, List.set_cons_succ]
            refine held_take (i := 3) (d := 29) (v := ?_) rfl rfl (by kernel_rfl) (by kernel_rfl) (by kernel_rfl) (fun _ _ _ h => h) (Or.inl ⟨by kernel_rfl, ?_⟩) hHeld ?_
            rotate_left
            · (intro w hSw; (try dsimp only at hSw); go_simp; first | done | with_reducible rfl)
            simp only [List.setIfInBounds_toArray, List.set_cons_zero, List.set_cons_succ]
            refine held_take (i := 4) (d := 30) (v := undef) rfl rfl (by kernel_rfl) (by kernel_rfl) (by kernel_rfl) (fun _ _ _ h => h) (Or.inr ⟨by kernel_rfl, rfl⟩) hHeld ?_
            simp only [List.setIfInBounds_toArray, List.set_cons_zero, List.set_cons_succ]
            refine held_take (i := 5) (d := 31) (v := undef) rfl rfl (by kernel_rfl) (by kernel_rfl) (by kernel_rfl) (fun _ _ _ h => h) (Or.inr ⟨by kernel_rfl, rfl⟩) hHeld ?_
            simp only [List.setIfInBounds_toArray, List.set_cons_zero, List.set_cons_succ]
            refine held_take (i := 6) (d := 32) (v := undef) rfl rfl (by kernel_rfl) (by kernel_rfl) (by kernel_rfl) (fun _ _ _ h => h) (Or.inr ⟨by kernel_rfl, rfl⟩) hHeld ?_
            simp only [List.setIfInBounds_toArray, List.set_cons_zero, List.set_cons_succ]
            refine held_take (i := 7) (d := 33) (v := undef) rfl rfl (by kernel_rfl) (by kernel_rfl) (by kernel_rfl) (fun _ _ _ h => h) (Or.inr ⟨by kernel_rfl, rfl⟩) hHeld ?_
            simp only [List.setIfInBounds_toArray, List.set_cons_zero, List.set_cons_succ]
            refine held_take (i := 8) (d := 34) (v := undef) rfl rfl (by kernel_rfl) (by kernel_rfl) (by kernel_rfl) (fun _ _ _ h => h) (Or.inr ⟨by kernel_rfl, rfl⟩) hHeld ?_
            simp only [List.setIfInBounds_toArray, List.set_cons_zero, List.set_cons_succ]
            refine held_take (i := 9) (d := 35) (v := undef) rfl rfl (by kernel_rfl) (by kernel_rfl) (by kernel_rfl) (fun _ _ _ h => h) (Or.inr ⟨by kernel_rfl, rfl⟩) hHeld ?_
            simp only [List.setIfInBounds_toArray, List.set_cons_zero, List.set_cons_succ]
            refine held_take (i := 10) (d := 36) (v := undef) rfl rfl (by kernel_rfl) (by kernel_rfl) (by kernel_rfl) (fun _ _ _ h => h) (Or.inr ⟨by kernel_rfl, rfl⟩) hHeld ?_
            simp only [List.setIfInBounds_toArray, List.set_cons_zero, List.set_cons_succ]
            refine held_take (i := 11) (d := 37) (v := undef) rfl rfl (by kernel_rfl) (by kernel_rfl) (by kernel_rfl) (fun _ _ _ h => h) (Or.inr ⟨by kernel_rfl, rfl⟩) hHeld ?_
            simp only [List.setIfInBounds_toArray, List.set_cons_zero, List.set_cons_succ]
            refine held_take (i := 12) (d := 38) (v := undef) rfl rfl (by kernel_rfl) (by kernel_rfl) (by kernel_rfl) (fun _ _ _ h => h) (Or.inr ⟨by kernel_rfl, rfl⟩) hHeld ?_
            simp only [List.setIfInBounds_toArray, List.set_cons_zero, List.set_cons_succ]
            refine held_take (i := 13) (d := 39) (v := undef) rfl rfl (by kernel_rfl) (by kernel_rfl) (by kernel_rfl) (fun _ _ _ h => h) (Or.inr ⟨by kernel_rfl, rfl⟩) hHeld ?_
            simp only [List.setIfInBounds_toArray, List.set_cons_zero, List.set_cons_succ]
            refine held_take (i := 14) (d := 40) (v := undef) rfl rfl (by kernel_rfl) (by kernel_rfl) (by kernel_rfl) (fun _ _ _ h => h) (Or.inr ⟨by kernel_rfl, rfl⟩) hHeld ?_
            simp only [List.setIfInBounds_toArray, List.set_cons_zero, List.set_cons_succ]
            refine held_take (i := 15) (d := 41) (v := undef) rfl rfl (by kernel_rfl) (by kernel_rfl) (by kernel_rfl) (fun _ _ _ h => h) (Or.inr ⟨by kernel_rfl, rfl⟩) hHeld ?_
            simp only [List.setIfInBounds_toArray, List.set_cons_zero, List.set_cons_succ]
            refine held_take (i := 16) (d := 42) (v := undef) rfl rfl (by kernel_rfl) (by kernel_rfl) (by kernel_rfl) (fun _ _ _ h => h) (Or.inr ⟨by kernel_rfl, rfl⟩) hHeld ?_
            simp only [List.setIfInBounds_toArray, List.set_cons_zero, List.set_cons_succ]
            refine held_take (i := 17) (d := 43) (v := undef) rfl rfl (by kernel_rfl) (by kernel_rfl) (by kernel_rfl) (fun _ _ _ h => h) (Or.inr ⟨by kernel_rfl, rfl⟩) hHeld ?_
            simp only [List.setIfInBounds_toArray, List.set_cons_zero, List.set_cons_succ]
            refine held_take (i := 18) (d := 44) (v := undef) rfl rfl (by kernel_rfl) (by kernel_rfl) (by kernel_rfl) (fun _ _ _ h => h) (Or.inr ⟨by kernel_rfl, rfl⟩) hHeld ?_
            simp only [List.setIfInBounds_toArray, List.set_cons_zero, List.set_cons_succ]
            refine held_take (i := 19) (d := 45) (v := undef) rfl rfl (by kernel_rfl) (by kernel_rfl) (by kernel_rfl) (fun _ _ _ h => h) (Or.inr ⟨by kernel_rfl, rfl⟩) hHeld ?_
            simp only [List.setIfInBounds_toArray, List.set_cons_zero, List.set_cons_succ]
            refine held_take (i := 20) (d := 46) (v := undef) rfl rfl (by kernel_rfl) (by kernel_rfl) (by kernel_rfl) (fun _ _ _ h => h) (Or.inr ⟨by kernel_rfl, rfl⟩) hHeld ?_
            simp only [List.setIfInBounds_toArray, List.set_cons_zero, List.set_cons_succ]
            refine held_take (i := 21) (d := 47) (v := undef) rfl rfl (by kernel_rfl) (by kernel_rfl) (by kernel_rfl) (fun _ _ _ h => h) (Or.inr ⟨by kernel_rfl, rfl⟩) hHeld ?_
            simp only [List.setIfInBounds_toArray, List.set_cons_zero, List.set_cons_succ]
            refine held_take (i := 22) (d := 48) (v := undef) rfl rfl (by kernel_rfl) (by kernel_rfl) (by kernel_rfl) (fun _ _ _ h => h) (Or.inr ⟨by kernel_rfl, rfl⟩) hHeld ?_
            simp only [List.setIfInBounds_toArray, List.set_cons_zero, List.set_cons_succ]
            refine held_take (i := 23) (d := 49) (v := ?_) rfl rfl (by kernel_rfl) (by kernel_rfl) (by kernel_rfl) (fun _ _ _ h => h) (Or.inl ⟨by kernel_rfl, ?_⟩) hHeld ?_
            rotate_left
            · (intro w hSw; (try dsimp only at hSw); go_simp; first | done | with_reducible rfl)
            simp only [List.setIfInBounds_toArray, List.set_cons_zero, List.set_cons_succ]
            refine wpAnyH_done (by kernel_rfl) ?_ _
            refine NoPanic.normal ?_
            go_wp2
            go_ret
            exact ⟨rfl, BW2.out⟩
          · rw [q1] at hst
            have HST := hid hst
            have HQ1 := hid q1
            clear hst q1
            by_cases hi0 : i = 0
            · have HI0 := hid hi0
              have j1 : ¬ (0 : Int) < (i : Int) := by omega
              have j2 : decide ((i : Int) > 0) = false := by simp; omega
              have j0 : ¬ 0 < i := by omega
              have HON := hid (ord_next R.out.1 (fun _ => HP0.out) (fun h => absurd h (by omega)))
              clear hi0
              go_wp2_with fail
              refine wp_region_noPanic ?_
              refine held_begin (S := (fun w' => w'.cell? ⟨wr.heap.size, 0, none⟩ = some (.int .i64 x.Parent) ∧ w'.cell? ⟨wr.heap.size, 1, none⟩ = some (.int .i64 x.Kind) ∧ w'.cell? ⟨wr.heap.size, 2, none⟩ = some (.int .i64 x.W) ∧ w'.cell? ⟨wr.heap.size, 3, none⟩ = some (.int .i64 x.H) ∧ w'.cell? ⟨wr.heap.size, 4, none⟩ = some (.int .i64 x.Pad) ∧ w'.cell? ⟨wr.heap.size, 5, none⟩ = some (.int .i64 x.Gap) ∧ w'.cell? ⟨wr.heap.size, 6, none⟩ = some (.int .i64 x.Grow) ∧ w'.cell? ⟨wr.heap.size, 7, none⟩ = some (.int .i64 x.Shrink) ∧ w'.cell? ⟨wr.heap.size, 8, none⟩ = some (.int .i64 x.Justify))) (L := [false, false, false, false, false, false, false, false, false, false, false, false, false, false, false, false, false, false, false, false, false, false, false, false]) (n := 24) (by kernel_rfl) ?_ rfl rfl (fun hHeld => ?_)
              · (go_keep)
              refine held_take (i := 0) (d := 26) (v := ?_) rfl rfl (by kernel_rfl) (by kernel_rfl) (by kernel_rfl) (fun _ _ _ h => h) (Or.inl ⟨by kernel_rfl, ?_⟩) hHeld ?_
              rotate_left
              · (intro w hSw; (try dsimp only at hSw); go_simp; first | done | with_reducible rfl)
              simp only [List.setIfInBounds_toArray, List.set_cons_zero, List.set_cons_succ]
              refine wpAnyH_ready (rs := [1]) (by kernel_rfl) (by simp) ?_
              refine AllReadyH.cons rfl (fun K hK => ?_) AllReadyH.nil
              go_simp
              ((with_reducible refine (HST.out _).mono ?_); rintro e w2 ⟨rfl, hb2⟩; have M2 := hid ((hb2.block wr.heap.size (by simp)).trans HM.out); have BW2 := hid (HBA.out.trans ((below_undrew hb2).mono HSA.out)); obtain ⟨k0, k1, k2, k3, k4, k5, k6, k7, k8⟩ := cells9 M2.out; have HS2 : wr.heap.size < w2.heap.size := lt_of_below hb2; clear hb2; dsimp only)
              refine hK.out _ _ ?_ (fun hHeld => ?_)
              · ((try dsimp only); go_keep)
              clear hK K
              try simp only [List.setIfInBounds_toArray, List.set_cons_zero, List.set_cons_succ]
              refine held_take (i := 2) (d := 28) (v := ?_) rfl rfl (by kernel_rfl) (by kernel_rfl) (by kernel_rfl) (fun _ _ _ h => h) (Or.inl ⟨by kernel_rfl, ?_⟩) hHeld ?_
              rotate_left
              · (intro w hSw; (try dsimp only at hSw); go_simp; first | done | with_reducible rfl)
              simp only [List.setIfInBounds_toArray, List.set_cons_zero, List.set_cons_succ]
              refine held_take (i := 3) (d := 29) (v := ?_) rfl rfl (by kernel_rfl) (by kernel_rfl) (by kernel_rfl) (fun _ _ _ h => h) (Or.inl ⟨by kernel_rfl, ?_⟩) hHeld ?_
              rotate_left
              · (intro w hSw; (try dsimp only at hSw); go_simp; first | done | with_reducible rfl)
              simp only [List.setIfInBounds_toArray, List.set_cons_zero, List.set_cons_succ]
              refine held_take (i := 4) (d := 30) (v := ?_) rfl rfl (by kernel_rfl) (by kernel_rfl) (by kernel_rfl) (fun _ _ _ h => h) (Or.inl ⟨by kernel_rfl, ?_⟩) hHeld ?_
              rotate_left
              · (intro w hSw; (try dsimp only at hSw); go_simp; first | done | with_reducible rfl)
              simp only [List.setIfInBounds_toArray, List.set_cons_zero, List.set_cons_succ]
              refine held_take (i := 5) (d := 31) (v := ?_) rfl rfl (by kernel_rfl) (by kernel_rfl) (by kernel_rfl) (fun _ _ _ h => h) (Or.inl ⟨by kernel_rfl, ?_⟩) hHeld ?_
              rotate_left
              · (intro w hSw; (try dsimp only at hSw); go_simp; first | done | with_reducible rfl)
              simp only [List.setIfInBounds_toArray, List.set_cons_zero, List.set_cons_succ]
              refine held_take (i := 6) (d := 32) (v := ?_) rfl rfl (by kernel_rfl) (by kernel_rfl) (by kernel_rfl) (fun _ _ _ h => h) (Or.inl ⟨by kernel_rfl, ?_⟩) hHeld ?_
              rotate_left
              · (intro w hSw; (try dsimp only at hSw); go_simp; first | done | with_reducible rfl)
              simp only [List.setIfInBounds_toArray, List.set_cons_zero, List.set_cons_succ]
              refine held_take (i := 7) (d := 33) (v := undef) rfl rfl (by kernel_rfl) (by kernel_rfl) (by kernel_rfl) (fun _ _ _ h => h) (Or.inr ⟨by kernel_rfl, rfl⟩) hHeld ?_
              simp only [List.setIfInBounds_toArray, List.set_cons_zero, List.set_cons_succ]
              refine held_take (i := 8) (d := 34) (v := undef) rfl rfl (by kernel_rfl) (by kernel_rfl) (by kernel_rfl) (fun _ _ _ h => h) (Or.inr ⟨by kernel_rfl, rfl⟩) hHeld ?_
              simp only [List.setIfInBounds_toArray, List.set_cons_zero, List.set_cons_succ]
              refine held_take (i := 9) (d := 35) (v := undef) rfl rfl (by kernel_rfl) (by kernel_rfl) (by kernel_rfl) (fun _ _ _ h => h) (Or.inr ⟨by kernel_rfl, rfl⟩) hHeld ?_
              simp only [List.setIfInBounds_toArray, List.set_cons_zero, List.set_cons_succ]
              refine held_take (i := 10) (d := 36) (v := undef) rfl rfl (by kernel_rfl) (by kernel_rfl) (by kernel_rfl) (fun _ _ _ h => h) (Or.inr ⟨by kernel_rfl, rfl⟩) hHeld ?_
              simp only [List.setIfInBounds_toArray, List.set_cons_zero, List.set_cons_succ]
              refine held_take (i := 11) (d := 37) (v := undef) rfl rfl (by kernel_rfl) (by kernel_rfl) (by kernel_rfl) (fun _ _ _ h => h) (Or.inr ⟨by kernel_rfl, rfl⟩) hHeld ?_
              simp only [List.setIfInBounds_toArray, List.set_cons_zero, List.set_cons_succ]
              refine held_take (i := 12) (d := 38) (v := undef) rfl rfl (by kernel_rfl) (by kernel_rfl) (by kernel_rfl) (fun _ _ _ h => h) (Or.inr ⟨by kernel_rfl, rfl⟩) hHeld ?_
              simp only [List.setIfInBounds_toArray, List.set_cons_zero, List.set_cons_succ]
              refine held_take (i := 13) (d := 39) (v := undef) rfl rfl (by kernel_rfl) (by kernel_rfl) (by kernel_rfl) (fun _ _ _ h => h) (Or.inr ⟨by kernel_rfl, rfl⟩) hHeld ?_
              simp only [List.setIfInBounds_toArray, List.set_cons_zero, List.set_cons_succ]
              refine held_take (i := 14) (d := 40) (v := undef) rfl rfl (by kernel_rfl) (by kernel_rfl) (by kernel_rfl) (fun _ _ _ h => h) (Or.inr ⟨by kernel_rfl, rfl⟩) hHeld ?_
              simp only [List.setIfInBounds_toArray, List.set_cons_zero, List.set_cons_succ]
              refine held_take (i := 15) (d := 41) (v := undef) rfl rfl (by kernel_rfl) (by kernel_rfl) (by kernel_rfl) (fun _ _ _ h => h) (Or.inr ⟨by kernel_rfl, rfl⟩) hHeld ?_
              simp only [List.setIfInBounds_toArray, List.set_cons_zero, List.set_cons_succ]
              refine held_take (i := 16) (d := 42) (v := undef) rfl rfl (by kernel_rfl) (by kernel_rfl) (by kernel_rfl) (fun _ _ _ h => h) (Or.inr ⟨by kernel_rfl, rfl⟩) hHeld ?_
              simp only [List.setIfInBounds_toArray, List.set_cons_zero, List.set_cons_succ]
              refine held_take (i := 17) (d := 43) (v := undef) rfl rfl (by kernel_rfl) (by kernel_rfl) (by kernel_rfl) (fun _ _ _ h => h) (Or.inr ⟨by kernel_rfl, rfl⟩) hHeld ?_
              simp only [List.setIfInBounds_toArray, List.set_cons_zero, List.set_cons_succ]
              refine held_take (i := 18) (d := 44) (v := undef) rfl rfl (by kernel_rfl) (by kernel_rfl) (by kernel_rfl) (fun _ _ _ h => h) (Or.inr ⟨by kernel_rfl, rfl⟩) hHeld ?_
              simp only [List.setIfInBounds_toArray, List.set_cons_zero, List.set_cons_succ]
              refine held_take (i := 19) (d := 45) (v := undef) rfl rfl (by kernel_rfl) (by kernel_rfl) (by kernel_rfl) (fun _ _ _ h => h) (Or.inr ⟨by kernel_rfl, rfl⟩) hHeld ?_
              simp only [List.setIfInBounds_toArray, List.set_cons_zero, List.set_cons_succ]
              refine held_take (i := 20) (d := 46) (v := undef) rfl rfl (by kernel_rfl) (by kernel_rfl) (by kernel_rfl) (fun _ _ _ h => h) (Or.inr ⟨by kernel_rfl, rfl⟩) hHeld ?_
              simp only [List.setIfInBounds_toArray, List.set_cons_zero, List.set_cons_succ]
              refine held_take (i := 21) (d := 47) (v := undef) rfl rfl (by kernel_rfl) (by kernel_rfl) (by kernel_rfl) (fun _ _ _ h => h) (Or.inr ⟨by kernel_rfl, rfl⟩) hHeld ?_
              simp only [List.setIfInBounds_toArray, List.set_cons_zero, List.set_cons_succ]
              refine held_take (i := 22) (d := 48) (v := ?_) rfl rfl (by kernel_rfl) (by kernel_rfl) (by kernel_rfl) (fun _ _ _ h => h) (Or.inl ⟨by kernel_rfl, ?_⟩) hHeld ?_
              rotate_left
              · (intro w hSw; (try dsimp only at hSw); go_simp; first | done | with_reducible rfl)
              simp only [List.setIfInBounds_toArray, List.set_cons_zero, List.set_cons_succ]
              refine held_take (i := 23) (d := 49) (v := ?_) rfl rfl (by kernel_rfl) (by kernel_rfl) (by kernel_rfl) (fun _ _ _ h => h) (Or.inl ⟨by kernel_rfl, ?_⟩) hHeld ?_
              rotate_left
              · (intro w hSw; (try dsimp only at hSw); go_simp; first | done | with_reducible rfl)
              simp only [List.setIfInBounds_toArray, List.set_cons_zero, List.set_cons_succ]
              refine wpAnyH_done (by kernel_rfl) ?_ _
              refine NoPanic.normal ?_
              have hc2 := (path_any _ T c i w2 (by omega) hlt (by omega) HON.out.1 ((H.out.below BW2.out).more BW2.out.size)).mono fun _ _ h => SliceN.of h
              rw [asI_len, path_len] at hc2
              have HC2 := hid hc2
              have hpl2 := up_len_le HON.out.1 i (by omega)
              clear hc2
              generalize hql : (up T i).length = Q at *
              have HPL := hid hql.symm
              clear hql
              by_cases hq6 : Q ≤ 6
              · have ht : decide ((Q : Int) > 6) = false := by simp; omega
                have HF := hid (fun wr' hb => R.out.next (wr' := wr') HON.out (by rw [HXB.out]; exact HQ1.out) (by rw [← HPL.out]; exact hq6) hb)
                go_wp2_with fail
                refine HC2.out.mono ?_
                rintro e w5 ⟨A5, c5, rfl, b5⟩
                have B5 := hid (BW2.out.trans (b5.mono BW2.out.size))
                clear b5
                go_wp2
                go_roundg (T.length - (i + 1))
                case measure => omega
                case rel => exact ⟨i + 1, by omega, by omega, by go_num, HF.out _ B5.out⟩
              · have := HI0.out; omega
            · have j1 : (0 : Int) < (i : Int) := by omega
              have j2 : decide ((i : Int) > 0) = true := by simp; omega
              have j0 : 0 < i := by omega
              have j3 : IntKind.i64.wrap ((i : Int) - 1) = (i : Int) - 1 := IntWalk.i64_in _ (by omega)
              have hw := fun W => withinB_any x.Parent 0 ((i : Int) - 1) W
              cases q2 : inR x.Parent 0 ((i : Int) - 1)
              · rw [q2] at hw
                have HW := hid hw
                have hr := NO.out (fun v => by have := (v.ord.1 i hlt).2 (by omega); rw [HXP.out] at this; have := inR_false.1 q2; omega)
                subst hr
                clear q2 hw NO YES hi0
                go_wp2_with fail
                refine wp_region_noPanic ?_
                refine held_begin (S := (fun w' => w'.cell? ⟨wr.heap.size, 0, none⟩ = some (.int .i64 x.Parent) ∧ w'.cell? ⟨wr.heap.size, 1, none⟩ = some (.int .i64 x.Kind) ∧ w'.cell? ⟨wr.heap.size, 2, none⟩ = some (.int .i64 x.W) ∧ w'.cell? ⟨wr.heap.size, 3, none⟩ = some (.int .i64 x.H) ∧ w'.cell? ⟨wr.heap.size, 4, none⟩ = some (.int .i64 x.Pad) ∧ w'.cell? ⟨wr.heap.size, 5, none⟩ = some (.int .i64 x.Gap) ∧ w'.cell? ⟨wr.heap.size, 6, none⟩ = some (.int .i64 x.Grow) ∧ w'.cell? ⟨wr.heap.size, 7, none⟩ = some (.int .i64 x.Shrink) ∧ w'.cell? ⟨wr.heap.size, 8, none⟩ = some (.int .i64 x.Justify))) (L := [false, false, false, false, false, false, false, false, false, false, false, false, false, false, false, false, false, false, false, false, false, false, false, false]) (n := 24) (by kernel_rfl) ?_ rfl rfl (fun hHeld => ?_)
                · (go_keep)
                refine held_take (i := 0) (d := 26) (v := ?_) rfl rfl (by kernel_rfl) (by kernel_rfl) (by kernel_rfl) (fun _ _ _ h => h) (Or.inl ⟨by kernel_rfl, ?_⟩) hHeld ?_
                rotate_left
                · (intro w hSw; (try dsimp only at hSw); go_simp; first | done | with_reducible rfl)
                simp only [List.setIfInBounds_toArray, List.set_cons_zero, List.set_cons_succ]
                refine wpAnyH_ready (rs := [1]) (by kernel_rfl) (by simp) ?_
                refine AllReadyH.cons rfl (fun K hK => ?_) AllReadyH.nil
                go_simp
                ((with_reducible refine (HST.out _).mono ?_); rintro e w2 ⟨rfl, hb2⟩; have M2 := hid ((hb2.block wr.heap.size (by simp)).trans HM.out); have BW2 := hid (HBA.out.trans ((below_undrew hb2).mono HSA.out)); obtain ⟨k0, k1, k2, k3, k4, k5, k6, k7, k8⟩ := cells9 M2.out; have HS2 : wr.heap.size < w2.heap.size := lt_of_below hb2; clear hb2; dsimp only)
                refine hK.out _ _ ?_ (fun hHeld => ?_)
                · ((try dsimp only); go_keep)
                clear hK K
                try simp only [List.setIfInBounds_toArray, List.set_cons_zero, List.set_cons_succ]
                refine held_take (i := 2) (d := 28) (v := ?_) rfl rfl (by kernel_rfl) (by kernel_rfl) (by kernel_rfl) (fun _ _ _ h => h) (Or.inl ⟨by kernel_rfl, ?_⟩) hHeld ?_
                rotate_left
                · (intro w hSw; (try dsimp only at hSw); go_simp; first | done | with_reducible rfl)
                simp only [List.setIfInBounds_toArray, List.set_cons_zero, List.set_cons_succ]
                refine held_take (i := 3) (d := 29) (v := ?_) rfl rfl (by kernel_rfl) (by kernel_rfl) (by kernel_rfl) (fun _ _ _ h => h) (Or.inl ⟨by kernel_rfl, ?_⟩) hHeld ?_
                rotate_left
                · (intro w hSw; (try dsimp only at hSw); go_simp; first | done | with_reducible rfl)
                simp only [List.setIfInBounds_toArray, List.set_cons_zero, List.set_cons_succ]
                refine held_take (i := 4) (d := 30) (v := ?_) rfl rfl (by kernel_rfl) (by kernel_rfl) (by kernel_rfl) (fun _ _ _ h => h) (Or.inl ⟨by kernel_rfl, ?_⟩) hHeld ?_
                rotate_left
                · (intro w hSw; (try dsimp only at hSw); go_simp; first | done | with_reducible rfl)
                simp only [List.setIfInBounds_toArray, List.set_cons_zero, List.set_cons_succ]
                refine held_take (i := 5) (d := 31) (v := ?_) rfl rfl (by kernel_rfl) (by kernel_rfl) (by kernel_rfl) (fun _ _ _ h => h) (Or.inl ⟨by kernel_rfl, ?_⟩) hHeld ?_
                rotate_left
                · (intro w hSw; (try dsimp only at hSw); go_simp; first | done | with_reducible rfl)
                simp only [List.setIfInBounds_toArray, List.set_cons_zero, List.set_cons_succ]
                refine held_take (i := 6) (d := 32) (v := ?_) rfl rfl (by kernel_rfl) (by kernel_rfl) (by kernel_rfl) (fun _ _ _ h => h) (Or.inl ⟨by kernel_rfl, ?_⟩) hHeld ?_
                rotate_left
                · (intro w hSw; (try dsimp only at hSw); go_simp; first | done | with_reducible rfl)
                simp only [List.setIfInBounds_toArray, List.set_cons_zero, List.set_cons_succ]
                refine held_take (i := 7) (d := 33) (v := ?_) rfl rfl (by kernel_rfl) (by kernel_rfl) (by kernel_rfl) (fun _ _ _ h => h) (Or.inl ⟨by kernel_rfl, ?_⟩) hHeld ?_
                rotate_left
                · (intro w hSw; (try dsimp only at hSw); go_simp; first | done | with_reducible rfl)
                simp only [List.setIfInBounds_toArray, List.set_cons_zero, List.set_cons_succ]
                refine held_take (i := 8) (d := 34) (v := ?_) rfl rfl (by kernel_rfl) (by kernel_rfl) (by kernel_rfl) (fun _ _ _ h => h) (Or.inl ⟨by kernel_rfl, ?_⟩) hHeld ?_
                rotate_left
                · (intro w hSw; (try dsimp only at hSw); go_simp; first | done | with_reducible rfl)
                simp only [List.setIfInBounds_toArray, List.set_cons_zero, List.set_cons_succ]
                refine held_take (i := 9) (d := 35) (v := ?_) rfl rfl (by kernel_rfl) (by kernel_rfl) (by kernel_rfl) (fun _ _ _ h => h) (Or.inl ⟨by kernel_rfl, ?_⟩) hHeld ?_
                rotate_left
                · (intro w hSw; (try dsimp only at hSw); go_simp; first | done | with_reducible rfl)
                simp only [List.setIfInBounds_toArray, List.set_cons_zero, List.set_cons_succ]
                refine held_take (i := 10) (d := 36) (v := ?_) rfl rfl (by kernel_rfl) (by kernel_rfl) (by kernel_rfl) (fun _ _ _ h => h) (Or.inl ⟨by kernel_rfl, ?_⟩) hHeld ?_
                rotate_left
                · (intro w hSw; (try dsimp only at hSw); go_simp; first | done | with_reducible rfl)
                simp only [List.setIfInBounds_toArray, List.set_cons_zero, List.set_cons_succ]
                refine wpAnyH_ready (rs := [11]) (by kernel_rfl) (by simp) ?_
                refine AllReadyH.cons rfl (fun K hK => ?_) AllReadyH.nil
                go_simp
                ((with_reducible refine (HW.out _).mono ?_); rintro e w3 ⟨rfl, rfl⟩; dsimp only)
                refine hK.out _ _ ?_ (fun hHeld => ?_)
                · ((try dsimp only); go_keep)
                clear hK K
                try simp only [List.setIfInBounds_toArray, List.set_cons_zero, List.set_cons_succ]
                refine held_take (i := 12) (d := 38) (v := ?_) rfl rfl (by kernel_rfl) (by kernel_rfl) (by kernel_rfl) (fun _ _ _ h => h) (Or.inl ⟨by kernel_rfl, ?_⟩) hHeld ?_
                rotate_left
                · (intro w hSw; (try dsimp only at hSw); go_simp; first | done | with_reducible rfl)
                simp only [List.setIfInBounds_toArray, List.set_cons_zero, List.set_cons_succ]
                refine held_take (i := 13) (d := 39) (v := undef) rfl rfl (by kernel_rfl) (by kernel_rfl) (by kernel_rfl) (fun _ _ _ h => h) (Or.inr ⟨by kernel_rfl, rfl⟩) hHeld ?_
                simp only [List.setIfInBounds_toArray, List.set_cons_zero, List.set_cons_succ]
                refine held_take (i := 14) (d := 40) (v := undef) rfl rfl (by kernel_rfl) (by kernel_rfl) (by kernel_rfl) (fun _ _ _ h => h) (Or.inr ⟨by kernel_rfl, rfl⟩) hHeld ?_
                simp only [List.setIfInBounds_toArray, List.set_cons_zero, List.set_cons_succ]
                refine held_take (i := 15) (d := 41) (v := undef) rfl rfl (by kernel_rfl) (by kernel_rfl) (by kernel_rfl) (fun _ _ _ h => h) (Or.inr ⟨by kernel_rfl, rfl⟩) hHeld ?_
                simp only [List.setIfInBounds_toArray, List.set_cons_zero, List.set_cons_succ]
                refine held_take (i := 16) (d := 42) (v := undef) rfl rfl (by kernel_rfl) (by kernel_rfl) (by kernel_rfl) (fun _ _ _ h => h) (Or.inr ⟨by kernel_rfl, rfl⟩) hHeld ?_
                simp only [List.setIfInBounds_toArray, List.set_cons_zero, List.set_cons_succ]
                refine held_take (i := 17) (d := 43) (v := undef) rfl rfl (by kernel_rfl) (by kernel_rfl) (by kernel_rfl) (fun _ _ _ h => h) (Or.inr ⟨by kernel_rfl, rfl⟩) hHeld ?_
                simp only [List.setIfInBounds_toArray, List.set_cons_zero, List.set_cons_succ]
                refine held_take (i := 18) (d := 44) (v := undef) rfl rfl (by kernel_rfl) (by kernel_rfl) (by kernel_rfl) (fun _ _ _ h => h) (Or.inr ⟨by kernel_rfl, rfl⟩) hHeld ?_
                simp only [List.setIfInBounds_toArray, List.set_cons_zero, List.set_cons_succ]
                refine held_take (i := 19) (d := 45) (v := undef) rfl rfl (by kernel_rfl) (by kernel_rfl) (by kernel_rfl) (fun _ _ _ h => h) (Or.inr ⟨by kernel_rfl, rfl⟩) hHeld ?_
                simp only [List.setIfInBounds_toArray, List.set_cons_zero, List.set_cons_succ]
                refine held_take (i := 20) (d := 46) (v := ?_) rfl rfl (by kernel_rfl) (by kernel_rfl) (by kernel_rfl) (fun _ _ _ h => h) (Or.inl ⟨by kernel_rfl, ?_⟩) hHeld ?_
                rotate_left
                · (intro w hSw; (try dsimp only at hSw); go_simp; first | done | with_reducible rfl)
                simp only [List.setIfInBounds_toArray, List.set_cons_zero, List.set_cons_succ]
                refine held_take (i := 21) (d := 47) (v := ?_) rfl rfl (by kernel_rfl) (by kernel_rfl) (by kernel_rfl) (fun _ _ _ h => h) (Or.inl ⟨by kernel_rfl, ?_⟩) hHeld ?_
                rotate_left
                · (intro w hSw; (try dsimp only at hSw); go_simp; first | done | with_reducible rfl)
                simp only [List.setIfInBounds_toArray, List.set_cons_zero, List.set_cons_succ]
                refine held_take (i := 22) (d := 48) (v := ?_) rfl rfl (by kernel_rfl) (by kernel_rfl) (by kernel_rfl) (fun _ _ _ h => h) (Or.inl ⟨by kernel_rfl, ?_⟩) hHeld ?_
                rotate_left
                · (intro w hSw; (try dsimp only at hSw); go_simp; first | done | with_reducible rfl)
                simp only [List.setIfInBounds_toArray, List.set_cons_zero, List.set_cons_succ]
                refine held_take (i := 23) (d := 49) (v := ?_) rfl rfl (by kernel_rfl) (by kernel_rfl) (by kernel_rfl) (fun _ _ _ h => h) (Or.inl ⟨by kernel_rfl, ?_⟩) hHeld ?_
                rotate_left
                · (intro w hSw; (try dsimp only at hSw); go_simp; first | done | with_reducible rfl)
                simp only [List.setIfInBounds_toArray, List.set_cons_zero, List.set_cons_succ]
                refine wpAnyH_done (by kernel_rfl) ?_ _
                refine NoPanic.normal ?_
                go_wp2
                go_ret
                exact ⟨rfl, BW2.out⟩
              · rw [q2] at hw
                have HW := hid hw
                have hp := inR_iff.1 q2
                have HPB := hid hp
                have hpc := fun W h => path_any (some ⟨b, off, none⟩) T c (i - 1) W (by omega) (by omega) (by omega) (by rw [show i - 1 + 1 = i by omega]; exact R.out.1.1) h
                rw [show ((i - 1 : Nat) : Int) = (i : Int) - 1 by omega] at hpc
                have hco := fun A3 c3 W h => containsInt_any A3 (asI (pathOf T (i - 1))) c3 x.Parent W (by have := path_short R.out.1.1 (show i - 1 < i by omega); omega) h
                have hmem : (asI (pathOf T (i - 1))).contains x.Parent = true ↔ (par T i).toNat ∈ up T (i - 1) := by rw [List.contains_iff_mem, asI_mem', mem_path, HXP.out]; exact ⟨fun h => h.2, fun h => ⟨hp.1, h⟩⟩
                have HP := hid hpc
                cases q3 : (asI (pathOf T (i - 1))).contains x.Parent
                · rw [q3] at hco
                  have HCO := hid hco
                  have hr := NO.out (fun v => by have := hmem.2 (v.ord.2 i (by omega) hlt); rw [q3] at this; cases this)
                  subst hr
                  clear q2 q3 hw hp hpc hco hmem NO YES hi0
                  go_wp2_with fail
                  refine wp_region_noPanic ?_
                  refine held_begin (S := (fun w' => w'.cell? ⟨wr.heap.size, 0, none⟩ = some (.int .i64 x.Parent) ∧ w'.cell? ⟨wr.heap.size, 1, none⟩ = some (.int .i64 x.Kind) ∧ w'.cell? ⟨wr.heap.size, 2, none⟩ = some (.int .i64 x.W) ∧ w'.cell? ⟨wr.heap.size, 3, none⟩ = some (.int .i64 x.H) ∧ w'.cell? ⟨wr.heap.size, 4, none⟩ = some (.int .i64 x.Pad) ∧ w'.cell? ⟨wr.heap.size, 5, none⟩ = some (.int .i64 x.Gap) ∧ w'.cell? ⟨wr.heap.size, 6, none⟩ = some (.int .i64 x.Grow) ∧ w'.cell? ⟨wr.heap.size, 7, none⟩ = some (.int .i64 x.Shrink) ∧ w'.cell? ⟨wr.heap.size, 8, none⟩ = some (.int .i64 x.Justify))) (L := [false, false, false, false, false, false, false, false, false, false, false, false, false, false, false, false, false, false, false, false, false, false, false, false]) (n := 24) (by kernel_rfl) ?_ rfl rfl (fun hHeld => ?_)
                  · (go_keep)
                  refine held_take (i := 0) (d := 26) (v := ?_) rfl rfl (by kernel_rfl) (by kernel_rfl) (by kernel_rfl) (fun _ _ _ h => h) (Or.inl ⟨by kernel_rfl, ?_⟩) hHeld ?_
                  rotate_left
                  · (intro w hSw; (try dsimp only at hSw); go_simp; first | done | with_reducible rfl)
                  simp only [List.setIfInBounds_toArray, List.set_cons_zero, List.set_cons_succ]
                  refine wpAnyH_ready (rs := [1]) (by kernel_rfl) (by simp) ?_
                  refine AllReadyH.cons rfl (fun K hK => ?_) AllReadyH.nil
                  go_simp
                  ((with_reducible refine (HST.out _).mono ?_); rintro e w2 ⟨rfl, hb2⟩; have M2 := hid ((hb2.block wr.heap.size (by simp)).trans HM.out); have BW2 := hid (HBA.out.trans ((below_undrew hb2).mono HSA.out)); obtain ⟨k0, k1, k2, k3, k4, k5, k6, k7, k8⟩ := cells9 M2.out; have HS2 : wr.heap.size < w2.heap.size := lt_of_below hb2; clear hb2; dsimp only)
                  refine hK.out _ _ ?_ (fun hHeld => ?_)
                  · ((try dsimp only); go_keep)
                  clear hK K
                  try simp only [List.setIfInBounds_toArray, List.set_cons_zero, List.set_cons_succ]
                  refine held_take (i := 2) (d := 28) (v := ?_) rfl rfl (by kernel_rfl) (by kernel_rfl) (by kernel_rfl) (fun _ _ _ h => h) (Or.inl ⟨by kernel_rfl, ?_⟩) hHeld ?_
                  rotate_left
                  · (intro w hSw; (try dsimp only at hSw); go_simp; first | done | with_reducible rfl)
                  simp only [List.setIfInBounds_toArray, List.set_cons_zero, List.set_cons_succ]
                  refine held_take (i := 3) (d := 29) (v := ?_) rfl rfl (by kernel_rfl) (by kernel_rfl) (by kernel_rfl) (fun _ _ _ h => h) (Or.inl ⟨by kernel_rfl, ?_⟩) hHeld ?_
                  rotate_left
                  · (intro w hSw; (try dsimp only at hSw); go_simp; first | done | with_reducible rfl)
                  simp only [List.setIfInBounds_toArray, List.set_cons_zero, List.set_cons_succ]
                  refine held_take (i := 4) (d := 30) (v := ?_) rfl rfl (by kernel_rfl) (by kernel_rfl) (by kernel_rfl) (fun _ _ _ h => h) (Or.inl ⟨by kernel_rfl, ?_⟩) hHeld ?_
                  rotate_left
                  · (intro w hSw; (try dsimp only at hSw); go_simp; first | done | with_reducible rfl)
                  simp only [List.setIfInBounds_toArray, List.set_cons_zero, List.set_cons_succ]
                  refine held_take (i := 5) (d := 31) (v := ?_) rfl rfl (by kernel_rfl) (by kernel_rfl) (by kernel_rfl) (fun _ _ _ h => h) (Or.inl ⟨by kernel_rfl, ?_⟩) hHeld ?_
                  rotate_left
                  · (intro w hSw; (try dsimp only at hSw); go_simp; first | done | with_reducible rfl)
                  simp only [List.setIfInBounds_toArray, List.set_cons_zero, List.set_cons_succ]
                  refine held_take (i := 6) (d := 32) (v := ?_) rfl rfl (by kernel_rfl) (by kernel_rfl) (by kernel_rfl) (fun _ _ _ h => h) (Or.inl ⟨by kernel_rfl, ?_⟩) hHeld ?_
                  rotate_left
                  · (intro w hSw; (try dsimp only at hSw); go_simp; first | done | with_reducible rfl)
                  simp only [List.setIfInBounds_toArray, List.set_cons_zero, List.set_cons_succ]
                  refine held_take (i := 7) (d := 33) (v := ?_) rfl rfl (by kernel_rfl) (by kernel_rfl) (by kernel_rfl) (fun _ _ _ h => h) (Or.inl ⟨by kernel_rfl, ?_⟩) hHeld ?_
                  rotate_left
                  · (intro w hSw; (try dsimp only at hSw); go_simp; first | done | with_reducible rfl)
                  simp only [List.setIfInBounds_toArray, List.set_cons_zero, List.set_cons_succ]
                  refine held_take (i := 8) (d := 34) (v := ?_) rfl rfl (by kernel_rfl) (by kernel_rfl) (by kernel_rfl) (fun _ _ _ h => h) (Or.inl ⟨by kernel_rfl, ?_⟩) hHeld ?_
                  rotate_left
                  · (intro w hSw; (try dsimp only at hSw); go_simp; first | done | with_reducible rfl)
                  simp only [List.setIfInBounds_toArray, List.set_cons_zero, List.set_cons_succ]
                  refine held_take (i := 9) (d := 35) (v := ?_) rfl rfl (by kernel_rfl) (by kernel_rfl) (by kernel_rfl) (fun _ _ _ h => h) (Or.inl ⟨by kernel_rfl, ?_⟩) hHeld ?_
                  rotate_left
                  · (intro w hSw; (try dsimp only at hSw); go_simp; first | done | with_reducible rfl)
                  simp only [List.setIfInBounds_toArray, List.set_cons_zero, List.set_cons_succ]
                  refine held_take (i := 10) (d := 36) (v := ?_) rfl rfl (by kernel_rfl) (by kernel_rfl) (by kernel_rfl) (fun _ _ _ h => h) (Or.inl ⟨by kernel_rfl, ?_⟩) hHeld ?_
                  rotate_left
                  · (intro w hSw; (try dsimp only at hSw); go_simp; first | done | with_reducible rfl)
                  simp only [List.setIfInBounds_toArray, List.set_cons_zero, List.set_cons_succ]
                  refine wpAnyH_ready (rs := [11]) (by kernel_rfl) (by simp) ?_
                  refine AllReadyH.cons rfl (fun K hK => ?_) AllReadyH.nil
                  go_simp
                  ((with_reducible refine (HW.out _).mono ?_); rintro e w3 ⟨rfl, rfl⟩; dsimp only)
                  refine hK.out _ _ ?_ (fun hHeld => ?_)
                  · ((try dsimp only); go_keep)
                  clear hK K
                  try simp only [List.setIfInBounds_toArray, List.set_cons_zero, List.set_cons_succ]
                  refine held_take (i := 12) (d := 38) (v := ?_) rfl rfl (by kernel_rfl) (by kernel_rfl) (by kernel_rfl) (fun _ _ _ h => h) (Or.inl ⟨by kernel_rfl, ?_⟩) hHeld ?_
                  rotate_left
                  · (intro w hSw; (try dsimp only at hSw); go_simp; first | done | with_reducible rfl)
                  simp only [List.setIfInBounds_toArray, List.set_cons_zero, List.set_cons_succ]
                  refine held_take (i := 13) (d := 39) (v := ?_) rfl rfl (by kernel_rfl) (by kernel_rfl) (by kernel_rfl) (fun _ _ _ h => h) (Or.inl ⟨by kernel_rfl, ?_⟩) hHeld ?_
                  rotate_left
                  · (intro w hSw; (try dsimp only at hSw); go_simp; first | done | with_reducible rfl)
                  simp only [List.setIfInBounds_toArray, List.set_cons_zero, List.set_cons_succ]
                  refine held_take (i := 14) (d := 40) (v := ?_) rfl rfl (by kernel_rfl) (by kernel_rfl) (by kernel_rfl) (fun _ _ _ h => h) (Or.inl ⟨by kernel_rfl, ?_⟩) hHeld ?_
                  rotate_left
                  · (intro w hSw; (try dsimp only at hSw); go_simp; first | done | with_reducible rfl)
                  simp only [List.setIfInBounds_toArray, List.set_cons_zero, List.set_cons_succ]
                  refine held_take (i := 15) (d := 41) (v := ?_) rfl rfl (by kernel_rfl) (by kernel_rfl) (by kernel_rfl) (fun _ _ _ h => h) (Or.inl ⟨by kernel_rfl, ?_⟩) hHeld ?_
                  rotate_left
                  · (intro w hSw; (try dsimp only at hSw); go_simp; first | done | with_reducible rfl)
                  simp only [List.setIfInBounds_toArray, List.set_cons_zero, List.set_cons_succ]
                  refine held_take (i := 17) (d := 43) (v := ?_) rfl rfl (by kernel_rfl) (by kernel_rfl) (by kernel_rfl) (fun _ _ _ h => h) (Or.inl ⟨by kernel_rfl, ?_⟩) hHeld ?_
                  rotate_left
                  · (intro w hSw; (try dsimp only at hSw); go_simp; first | done | with_reducible rfl)
                  simp only [List.setIfInBounds_toArray, List.set_cons_zero, List.set_cons_succ]
                  refine held_take (i := 18) (d := 44) (v := ?_) rfl rfl (by kernel_rfl) (by kernel_rfl) (by kernel_rfl) (fun _ _ _ h => h) (Or.inl ⟨by kernel_rfl, ?_⟩) hHeld ?_
                  rotate_left
                  · (intro w hSw; (try dsimp only at hSw); go_simp; first | done | with_reducible rfl)
                  simp only [List.setIfInBounds_toArray, List.set_cons_zero, List.set_cons_succ]
                  refine wpAnyH_ready (rs := [16]) (by kernel_rfl) (by simp) ?_
                  refine AllReadyH.cons rfl (fun K hK => ?_) AllReadyH.nil
                  go_simp
                  ((with_reducible refine (HP.out w2 ((H.out.below BW2.out).more BW2.out.size)).mono ?_); rintro e w3 ⟨A3, c3, rfl, -, -, o3, b3⟩; have M3 := hid ((b3.block wr.heap.size HS2).trans M2.out); have BW3 := hid (BW2.out.trans (b3.mono BW2.out.size)); have O3 := hid o3.arr; clear o3 b3; clear k0 k1 k2 k3 k4 k5 k6 k7 k8; obtain ⟨k0, k1, k2, k3, k4, k5, k6, k7, k8⟩ := cells9 M3.out; dsimp only)
                  refine hK.out _ _ ?_ (fun hHeld => ?_)
                  · ((try dsimp only); go_keep)
                  clear hK K
                  try simp only [List.setIfInBounds_toArray, List.set_cons_zero, List.set_cons_succ]
                  refine wpAnyH_ready (rs := [19]) (by kernel_rfl) (by simp) ?_
                  refine AllReadyH.cons rfl (fun K hK => ?_) AllReadyH.nil
                  go_simp
                  ((with_reducible refine (HCO.out _ _ w3 O3.out).mono ?_); rintro e w4 ⟨rfl, rfl⟩; dsimp only)
                  refine hK.out _ _ ?_ (fun hHeld => ?_)
                  · ((try dsimp only); go_keep)
                  clear hK K
                  try simp only [List.setIfInBounds_toArray, List.set_cons_zero, List.set_cons_succ]
                  refine held_take (i := 20) (d := 46) (v := ?_) rfl rfl (by kernel_rfl) (by kernel_rfl) (by kernel_rfl) (fun _ _ _ h => h) (Or.inl ⟨by kernel_rfl, ?_⟩) hHeld ?_
                  rotate_left
                  · (intro w hSw; (try dsimp only at hSw); go_simp; first | done | with_reducible rfl)
                  simp only [List.setIfInBounds_toArray, List.set_cons_zero, List.set_cons_succ]
                  refine held_take (i := 21) (d := 47) (v := ?_) rfl rfl (by kernel_rfl) (by kernel_rfl) (by kernel_rfl) (fun _ _ _ h => h) (Or.inl ⟨by kernel_rfl, ?_⟩) hHeld ?_
                  rotate_left
                  · (intro w hSw; (try dsimp only at hSw); go_simp; first | done | with_reducible rfl)
                  simp only [List.setIfInBounds_toArray, List.set_cons_zero, List.set_cons_succ]
                  refine held_take (i := 22) (d := 48) (v := ?_) rfl rfl (by kernel_rfl) (by kernel_rfl) (by kernel_rfl) (fun _ _ _ h => h) (Or.inl ⟨by kernel_rfl, ?_⟩) hHeld ?_
                  rotate_left
                  · (intro w hSw; (try dsimp only at hSw); go_simp; first | done | with_reducible rfl)
                  simp only [List.setIfInBounds_toArray, List.set_cons_zero, List.set_cons_succ]
                  refine held_take (i := 23) (d := 49) (v := ?_) rfl rfl (by kernel_rfl) (by kernel_rfl) (by kernel_rfl) (fun _ _ _ h => h) (Or.inl ⟨by kernel_rfl, ?_⟩) hHeld ?_
                  rotate_left
                  · (intro w hSw; (try dsimp only at hSw); go_simp; first | done | with_reducible rfl)
                  simp only [List.setIfInBounds_toArray, List.set_cons_zero, List.set_cons_succ]
                  refine wpAnyH_done (by kernel_rfl) ?_ _
                  refine NoPanic.normal ?_
                  go_wp2
                  go_ret
                  exact ⟨rfl, BW3.out⟩
                · rw [q3] at hco
                  have HCO := hid hco
                  have HON := hid (ord_next R.out.1 (fun e => absurd e hi0) (fun _ => ⟨by rw [HXP.out]; omega, hmem.1 q3⟩))
                  clear q2 q3 hw hp hpc hco hmem hi0
                  go_wp2_with fail
                  refine wp_region_noPanic ?_
                  refine held_begin (S := (fun w' => w'.cell? ⟨wr.heap.size, 0, none⟩ = some (.int .i64 x.Parent) ∧ w'.cell? ⟨wr.heap.size, 1, none⟩ = some (.int .i64 x.Kind) ∧ w'.cell? ⟨wr.heap.size, 2, none⟩ = some (.int .i64 x.W) ∧ w'.cell? ⟨wr.heap.size, 3, none⟩ = some (.int .i64 x.H) ∧ w'.cell? ⟨wr.heap.size, 4, none⟩ = some (.int .i64 x.Pad) ∧ w'.cell? ⟨wr.heap.size, 5, none⟩ = some (.int .i64 x.Gap) ∧ w'.cell? ⟨wr.heap.size, 6, none⟩ = some (.int .i64 x.Grow) ∧ w'.cell? ⟨wr.heap.size, 7, none⟩ = some (.int .i64 x.Shrink) ∧ w'.cell? ⟨wr.heap.size, 8, none⟩ = some (.int .i64 x.Justify))) (L := [false, false, false, false, false, false, false, false, false, false, false, false, false, false, false, false, false, false, false, false, false, false, false, false]) (n := 24) (by kernel_rfl) ?_ rfl rfl (fun hHeld => ?_)
                  · (go_keep)
                  refine held_take (i := 0) (d := 26) (v := ?_) rfl rfl (by kernel_rfl) (by kernel_rfl) (by kernel_rfl) (fun _ _ _ h => h) (Or.inl ⟨by kernel_rfl, ?_⟩) hHeld ?_
                  rotate_left
                  · (intro w hSw; (try dsimp only at hSw); go_simp; first | done | with_reducible rfl)
                  simp only [List.setIfInBounds_toArray, List.set_cons_zero, List.set_cons_succ]
                  refine wpAnyH_ready (rs := [1]) (by kernel_rfl) (by simp) ?_
                  refine AllReadyH.cons rfl (fun K hK => ?_) AllReadyH.nil
                  go_simp
                  ((with_reducible refine (HST.out _).mono ?_); rintro e w2 ⟨rfl, hb2⟩; have M2 := hid ((hb2.block wr.heap.size (by simp)).trans HM.out); have BW2 := hid (HBA.out.trans ((below_undrew hb2).mono HSA.out)); obtain ⟨k0, k1, k2, k3, k4, k5, k6, k7, k8⟩ := cells9 M2.out; have HS2 : wr.heap.size < w2.heap.size := lt_of_below hb2; clear hb2; dsimp only)
                  refine hK.out _ _ ?_ (fun hHeld => ?_)
                  · ((try dsimp only); go_keep)
                  clear hK K
                  try simp only [List.setIfInBounds_toArray, List.set_cons_zero, List.set_cons_succ]
                  refine held_take (i := 2) (d := 28) (v := ?_) rfl rfl (by kernel_rfl) (by kernel_rfl) (by kernel_rfl) (fun _ _ _ h => h) (Or.inl ⟨by kernel_rfl, ?_⟩) hHeld ?_
                  rotate_left
                  · (intro w hSw; (try dsimp only at hSw); go_simp; first | done | with_reducible rfl)
                  simp only [List.setIfInBounds_toArray, List.set_cons_zero, List.set_cons_succ]
                  refine held_take (i := 3) (d := 29) (v := ?_) rfl rfl (by kernel_rfl) (by kernel_rfl) (by kernel_rfl) (fun _ _ _ h => h) (Or.inl ⟨by kernel_rfl, ?_⟩) hHeld ?_
                  rotate_left
                  · (intro w hSw; (try dsimp only at hSw); go_simp; first | done | with_reducible rfl)
                  simp only [List.setIfInBounds_toArray, List.set_cons_zero, List.set_cons_succ]
                  refine held_take (i := 4) (d := 30) (v := ?_) rfl rfl (by kernel_rfl) (by kernel_rfl) (by kernel_rfl) (fun _ _ _ h => h) (Or.inl ⟨by kernel_rfl, ?_⟩) hHeld ?_
                  rotate_left
                  · (intro w hSw; (try dsimp only at hSw); go_simp; first | done | with_reducible rfl)
                  simp only [List.setIfInBounds_toArray, List.set_cons_zero, List.set_cons_succ]
                  refine held_take (i := 5) (d := 31) (v := ?_) rfl rfl (by kernel_rfl) (by kernel_rfl) (by kernel_rfl) (fun _ _ _ h => h) (Or.inl ⟨by kernel_rfl, ?_⟩) hHeld ?_
                  rotate_left
                  · (intro w hSw; (try dsimp only at hSw); go_simp; first | done | with_reducible rfl)
                  simp only [List.setIfInBounds_toArray, List.set_cons_zero, List.set_cons_succ]
                  refine held_take (i := 6) (d := 32) (v := ?_) rfl rfl (by kernel_rfl) (by kernel_rfl) (by kernel_rfl) (fun _ _ _ h => h) (Or.inl ⟨by kernel_rfl, ?_⟩) hHeld ?_
                  rotate_left
                  · (intro w hSw; (try dsimp only at hSw); go_simp; first | done | with_reducible rfl)
                  simp only [List.setIfInBounds_toArray, List.set_cons_zero, List.set_cons_succ]
                  refine held_take (i := 7) (d := 33) (v := ?_) rfl rfl (by kernel_rfl) (by kernel_rfl) (by kernel_rfl) (fun _ _ _ h => h) (Or.inl ⟨by kernel_rfl, ?_⟩) hHeld ?_
                  rotate_left
                  · (intro w hSw; (try dsimp only at hSw); go_simp; first | done | with_reducible rfl)
                  simp only [List.setIfInBounds_toArray, List.set_cons_zero, List.set_cons_succ]
                  refine held_take (i := 8) (d := 34) (v := ?_) rfl rfl (by kernel_rfl) (by kernel_rfl) (by kernel_rfl) (fun _ _ _ h => h) (Or.inl ⟨by kernel_rfl, ?_⟩) hHeld ?_
                  rotate_left
                  · (intro w hSw; (try dsimp only at hSw); go_simp; first | done | with_reducible rfl)
                  simp only [List.setIfInBounds_toArray, List.set_cons_zero, List.set_cons_succ]
                  refine held_take (i := 9) (d := 35) (v := ?_) rfl rfl (by kernel_rfl) (by kernel_rfl) (by kernel_rfl) (fun _ _ _ h => h) (Or.inl ⟨by kernel_rfl, ?_⟩) hHeld ?_
                  rotate_left
                  · (intro w hSw; (try dsimp only at hSw); go_simp; first | done | with_reducible rfl)
                  simp only [List.setIfInBounds_toArray, List.set_cons_zero, List.set_cons_succ]
                  refine held_take (i := 10) (d := 36) (v := ?_) rfl rfl (by kernel_rfl) (by kernel_rfl) (by kernel_rfl) (fun _ _ _ h => h) (Or.inl ⟨by kernel_rfl, ?_⟩) hHeld ?_
                  rotate_left
                  · (intro w hSw; (try dsimp only at hSw); go_simp; first | done | with_reducible rfl)
                  simp only [List.setIfInBounds_toArray, List.set_cons_zero, List.set_cons_succ]
                  refine wpAnyH_ready (rs := [11]) (by kernel_rfl) (by simp) ?_
                  refine AllReadyH.cons rfl (fun K hK => ?_) AllReadyH.nil
                  go_simp
                  ((with_reducible refine (HW.out _).mono ?_); rintro e w3 ⟨rfl, rfl⟩; dsimp only)
                  refine hK.out _ _ ?_ (fun hHeld => ?_)
                  · ((try dsimp only); go_keep)
                  clear hK K
                  try simp only [List.setIfInBounds_toArray, List.set_cons_zero, List.set_cons_succ]
                  refine held_take (i := 12) (d := 38) (v := ?_) rfl rfl (by kernel_rfl) (by kernel_rfl) (by kernel_rfl) (fun _ _ _ h => h) (Or.inl ⟨by kernel_rfl, ?_⟩) hHeld ?_
                  rotate_left
                  · (intro w hSw; (try dsimp only at hSw); go_simp; first | done | with_reducible rfl)
                  simp only [List.setIfInBounds_toArray, List.set_cons_zero, List.set_cons_succ]
                  refine held_take (i := 13) (d := 39) (v := ?_) rfl rfl (by kernel_rfl) (by kernel_rfl) (by kernel_rfl) (fun _ _ _ h => h) (Or.inl ⟨by kernel_rfl, ?_⟩) hHeld ?_
                  rotate_left
                  · (intro w hSw; (try dsimp only at hSw); go_simp; first | done | with_reducible rfl)
                  simp only [List.setIfInBounds_toArray, List.set_cons_zero, List.set_cons_succ]
                  refine held_take (i := 14) (d := 40) (v := ?_) rfl rfl (by kernel_rfl) (by kernel_rfl) (by kernel_rfl) (fun _ _ _ h => h) (Or.inl ⟨by kernel_rfl, ?_⟩) hHeld ?_
                  rotate_left
                  · (intro w hSw; (try dsimp only at hSw); go_simp; first | done | with_reducible rfl)
                  simp only [List.setIfInBounds_toArray, List.set_cons_zero, List.set_cons_succ]
                  refine held_take (i := 15) (d := 41) (v := ?_) rfl rfl (by kernel_rfl) (by kernel_rfl) (by kernel_rfl) (fun _ _ _ h => h) (Or.inl ⟨by kernel_rfl, ?_⟩) hHeld ?_
                  rotate_left
                  · (intro w hSw; (try dsimp only at hSw); go_simp; first | done | with_reducible rfl)
                  simp only [List.setIfInBounds_toArray, List.set_cons_zero, List.set_cons_succ]
                  refine held_take (i := 17) (d := 43) (v := ?_) rfl rfl (by kernel_rfl) (by kernel_rfl) (by kernel_rfl) (fun _ _ _ h => h) (Or.inl ⟨by kernel_rfl, ?_⟩) hHeld ?_
                  rotate_left
                  · (intro w hSw; (try dsimp only at hSw); go_simp; first | done | with_reducible rfl)
                  simp only [List.setIfInBounds_toArray, List.set_cons_zero, List.set_cons_succ]
                  refine held_take (i := 18) (d := 44) (v := ?_) rfl rfl (by kernel_rfl) (by kernel_rfl) (by kernel_rfl) (fun _ _ _ h => h) (Or.inl ⟨by kernel_rfl, ?_⟩) hHeld ?_
                  rotate_left
                  · (intro w hSw; (try dsimp only at hSw); go_simp; first | done | with_reducible rfl)
                  simp only [List.setIfInBounds_toArray, List.set_cons_zero, List.set_cons_succ]
                  refine wpAnyH_ready (rs := [16]) (by kernel_rfl) (by simp) ?_
                  refine AllReadyH.cons rfl (fun K hK => ?_) AllReadyH.nil
                  go_simp
                  ((with_reducible refine (HP.out w2 ((H.out.below BW2.out).more BW2.out.size)).mono ?_); rintro e w3 ⟨A3, c3, rfl, -, -, o3, b3⟩; have M3 := hid ((b3.block wr.heap.size HS2).trans M2.out); have BW3 := hid (BW2.out.trans (b3.mono BW2.out.size)); have O3 := hid o3.arr; clear o3 b3; clear k0 k1 k2 k3 k4 k5 k6 k7 k8; obtain ⟨k0, k1, k2, k3, k4, k5, k6, k7, k8⟩ := cells9 M3.out; dsimp only)
                  refine hK.out _ _ ?_ (fun hHeld => ?_)
                  · ((try dsimp only); go_keep)
                  clear hK K
                  try simp only [List.setIfInBounds_toArray, List.set_cons_zero, List.set_cons_succ]
                  refine wpAnyH_ready (rs := [19]) (by kernel_rfl) (by simp) ?_
                  refine AllReadyH.cons rfl (fun K hK => ?_) AllReadyH.nil
                  go_simp
                  ((with_reducible refine (HCO.out _ _ w3 O3.out).mono ?_); rintro e w4 ⟨rfl, rfl⟩; dsimp only)
                  refine hK.out _ _ ?_ (fun hHeld => ?_)
                  · ((try dsimp only); go_keep)
                  clear hK K
                  try simp only [List.setIfInBounds_toArray, List.set_cons_zero, List.set_cons_succ]
                  refine held_take (i := 20) (d := 46) (v := ?_) rfl rfl (by kernel_rfl) (by kernel_rfl) (by kernel_rfl) (fun _ _ _ h => h) (Or.inl ⟨by kernel_rfl, ?_⟩) hHeld ?_
                  rotate_left
                  · (intro w hSw; (try dsimp only at hSw); go_simp; first | done | with_reducible rfl)
                  simp only [List.setIfInBounds_toArray, List.set_cons_zero, List.set_cons_succ]
                  refine held_take (i := 21) (d := 47) (v := ?_) rfl rfl (by kernel_rfl) (by kernel_rfl) (by kernel_rfl) (fun _ _ _ h => h) (Or.inl ⟨by kernel_rfl, ?_⟩) hHeld ?_
                  rotate_left
                  · (intro w hSw; (try dsimp only at hSw); go_simp; first | done | with_reducible rfl)
                  simp only [List.setIfInBounds_toArray, List.set_cons_zero, List.set_cons_succ]
                  refine held_take (i := 22) (d := 48) (v := ?_) rfl rfl (by kernel_rfl) (by kernel_rfl) (by kernel_rfl) (fun _ _ _ h => h) (Or.inl ⟨by kernel_rfl, ?_⟩) hHeld ?_
                  rotate_left
                  · (intro w hSw; (try dsimp only at hSw); go_simp; first | done | with_reducible rfl)
                  simp only [List.setIfInBounds_toArray, List.set_cons_zero, List.set_cons_succ]
                  refine held_take (i := 23) (d := 49) (v := ?_) rfl rfl (by kernel_rfl) (by kernel_rfl) (by kernel_rfl) (fun _ _ _ h => h) (Or.inl ⟨by kernel_rfl, ?_⟩) hHeld ?_
                  rotate_left
                  · (intro w hSw; (try dsimp only at hSw); go_simp; first | done | with_reducible rfl)
                  simp only [List.setIfInBounds_toArray, List.set_cons_zero, List.set_cons_succ]
                  refine wpAnyH_done (by kernel_rfl) ?_ _
                  refine NoPanic.normal ?_
                  have hc2 := (path_any _ T c i w3 (by omega) hlt (by omega) HON.out.1 ((H.out.below BW3.out).more BW3.out.size)).mono fun _ _ h => SliceN.of h
                  rw [asI_len, path_len] at hc2
                  have HC2 := hid hc2
                  have hpl2 := up_len_le HON.out.1 i (by omega)
                  clear hc2
                  generalize hql : (up T i).length = Q at *
                  have HPL := hid hql.symm
                  clear hql
                  by_cases hq6 : Q ≤ 6
                  · have ht : decide ((Q : Int) > 6) = false := by simp; omega
                    have HF := hid (fun wr' hb => R.out.next (wr' := wr') HON.out (by rw [HXB.out]; exact HQ1.out) (by rw [← HPL.out]; exact hq6) hb)
                    go_wp2_with fail
                    refine HC2.out.mono ?_
                    rintro e w5 ⟨A5, c5, rfl, b5⟩
                    have B5 := hid (BW3.out.trans (b5.mono BW3.out.size))
                    clear b5
                    go_wp2
                    go_roundg (T.length - (i + 1))
                    case measure => omega
                    case rel => exact ⟨i + 1, by omega, by omega, by go_num, HF.out _ B5.out⟩
                  · have ht : decide ((Q : Int) > 6) = true := by simp; omega
                    have hr := NO.out (fun v => by have := v.dep i hlt; rw [← HPL.out] at this; exact hq6 this)
                    subst hr
                    clear NO YES
                    go_wp2_with fail
                    refine HC2.out.mono ?_
                    rintro e w5 ⟨A5, c5, rfl, b5⟩
                    have B5 := hid (BW3.out.trans (b5.mono BW3.out.size))
                    clear b5
                    go_wp2
                    go_ret
                    exact ⟨rfl, B5.out⟩
        · have hil : i = T.length := by omega
          subst hil
          have HV1 := hid R.out.1
          have HV2 := hid R.out.2.1
          have HV3 := hid R.out.2.2.1
          have B1 := hid R.out.2.2.2
          clear R
          obtain ⟨wo, hwo⟩ : ∃ wo : World, wo = wr := ⟨_, rfl⟩
          subst hwo
          go_wp2
          go_loopg [58] T.length (fun gg s58 wr => ∃ i : Nat, i ≤ T.length ∧ T.length - i ≤ gg ∧ s58 = .int .i64 i ∧ Aside ((∀ j, j < i → (kidsN T T.length j).length ≤ 8) ∧ (∀ j, j < i → (boxAt T j).Kind = 0 → (kidsN T T.length j).length = 0) ∧ Below w.heap.size w wr))
          case atStart => exact ⟨0, Nat.zero_le _, by omega, rfl, fun j hj => absurd hj (Nat.not_lt_zero _), fun j hj => absurd hj (Nat.not_lt_zero _), B1.out⟩
          case round =>
            obtain ⟨i, hi, hgg, rfl, R⟩ := hrel
            have hsz := R.out.2.2.size
            by_cases hlt : i < T.length
            · obtain ⟨x, hx, hbw, e0, e1, e2, e3, e4, e5, e6, e7, e8⟩ := (H.out.below R.out.2.2).litBox hlt
              have HXB := hid (boxAt_of hx)
              have i1 : (0 : Int) ≤ (i : Int) := by omega
              have i2 : (i : Int) < (T.length : Int) := by omega
              have HBA := hid (R.out.2.2.alloc hsz (.cells #[.int .i64 x.Parent, .int .i64 x.Kind, .int .i64 x.W, .int .i64 x.H, .int .i64 x.Pad, .int .i64 x.Gap, .int .i64 x.Grow, .int .i64 x.Shrink, .int .i64 x.Justify] 33))
              have HM := hid (heap_alloc_new wr (.cells #[.int .i64 x.Parent, .int .i64 x.Kind, .int .i64 x.W, .int .i64 x.H, .int .i64 x.Pad, .int .i64 x.Gap, .int .i64 x.Grow, .int .i64 x.Shrink, .int .i64 x.Justify] 33))
              have hk := fun W h => kids_any (some ⟨b, off, none⟩) T c i W (by omega) h
              have hkl := kids_len_le T T.length i
              have hk2 := (hk (wr.alloc (.cells #[.int .i64 x.Parent, .int .i64 x.Kind, .int .i64 x.W, .int .i64 x.H, .int .i64 x.Pad, .int .i64 x.Gap, .int .i64 x.Grow, .int .i64 x.Shrink, .int .i64 x.Justify] 33)) ((H.out.below HBA.out).more HBA.out.size)).mono fun _ _ h => SliceN.of h
              rw [asI_len] at hk2
              have HK := hid hk2
              clear hx hk hk2
              generalize hql : (kidsN T T.length i).length = Q at *
              have HLEN := hid hql.symm
              clear hql
              by_cases hq8 : Q ≤ 8
              · have ht : decide ((Q : Int) > 8) = false := by simp; omega
                by_cases hk0 : x.Kind = 0
                · have ht2 : (x.Kind == 0) = true := by rw [beq_iff_eq]; exact hk0
                  by_cases hq0 : Q = 0
                  · have ht3 : ¬ 0 < Q := by omega
                    have HF : Hid (∀ wr', Below w.heap.size w wr' → (∀ j, j < i + 1 → (kidsN T T.length j).length ≤ 8) ∧ (∀ j, j < i + 1 → (boxAt T j).Kind = 0 → (kidsN T T.length j).length = 0) ∧ Below w.heap.size w wr') := hid (fun wr' hb => ⟨fun j hj => by
                      by_cases e : j = i
                      · subst e; rw [← HLEN.out]; exact hq8
                      · exact R.out.1 j (by omega), fun j hj hz => by
                      by_cases e : j = i
                      · subst e; rw [← HLEN.out]; exact hq0
                      · exact R.out.2.1 j (by omega) hz, hb⟩)
                    have HQ0 := hid hq0
                    clear hk0 hq0
                    go_wp2_with fail
                    refine HK.out.mono ?_
                    rintro e w5 ⟨A5, c5, rfl, b5⟩
                    obtain ⟨k0, k1, k2, k3, k4, k5, k6, k7, k8⟩ := cells9 ((b5.block wr.heap.size (by simp)).trans HM.out)
                    have B5 := hid (HBA.out.trans (b5.mono HBA.out.size))
                    clear b5
                    go_wp2
                    go_roundg (T.length - (i + 1))
                    case measure => omega
                    case rel => exact ⟨i + 1, by omega, by omega, by go_num, HF.out _ B5.out⟩
                  · have ht3 : 0 < Q := by omega
                    have hr := NO.out (fun v => by have := v.leaf i hlt (by rw [HXB.out]; exact hk0); rw [← HLEN.out] at this; exact hq0 this)
                    subst hr
                    clear hk0 hq0 NO YES
                    go_wp2_with fail
                    refine HK.out.mono ?_
                    rintro e w5 ⟨A5, c5, rfl, b5⟩
                    obtain ⟨k0, k1, k2, k3, k4, k5, k6, k7, k8⟩ := cells9 ((b5.block wr.heap.size (by simp)).trans HM.out)
                    have B5 := hid (HBA.out.trans (b5.mono HBA.out.size))
                    clear b5
                    go_wp2
                    go_ret
                    exact ⟨rfl, B5.out⟩
                · have ht2 : (x.Kind == 0) = false := by rw [beq_eq_false_iff_ne]; exact hk0
                  have HF : Hid (∀ wr', Below w.heap.size w wr' → (∀ j, j < i + 1 → (kidsN T T.length j).length ≤ 8) ∧ (∀ j, j < i + 1 → (boxAt T j).Kind = 0 → (kidsN T T.length j).length = 0) ∧ Below w.heap.size w wr') := hid (fun wr' hb => ⟨fun j hj => by
                    by_cases e : j = i
                    · subst e; rw [← HLEN.out]; exact hq8
                    · exact R.out.1 j (by omega), fun j hj hz => by
                    by_cases e : j = i
                    · subst e; rw [HXB.out] at hz; exact absurd hz hk0
                    · exact R.out.2.1 j (by omega) hz, hb⟩)
                  clear hk0
                  go_wp2_with fail
                  refine HK.out.mono ?_
                  rintro e w5 ⟨A5, c5, rfl, b5⟩
                  obtain ⟨k0, k1, k2, k3, k4, k5, k6, k7, k8⟩ := cells9 ((b5.block wr.heap.size (by simp)).trans HM.out)
                  have B5 := hid (HBA.out.trans (b5.mono HBA.out.size))
                  clear b5
                  go_wp2
                  go_roundg (T.length - (i + 1))
                  case measure => omega
                  case rel => exact ⟨i + 1, by omega, by omega, by go_num, HF.out _ B5.out⟩
              · have ht : decide ((Q : Int) > 8) = true := by simp; omega
                have hr := NO.out (fun v => by have := v.many i hlt; rw [← HLEN.out] at this; exact hq8 this)
                subst hr
                clear NO YES
                go_wp2_with fail
                refine HK.out.mono ?_
                rintro e w5 ⟨A5, c5, rfl, b5⟩
                obtain ⟨k0, k1, k2, k3, k4, k5, k6, k7, k8⟩ := cells9 ((b5.block wr.heap.size (by simp)).trans HM.out)
                have B5 := hid (HBA.out.trans (b5.mono HBA.out.size))
                clear b5
                go_wp2
                go_ret
                exact ⟨rfl, B5.out⟩
            · have hil : i = T.length := by omega
              subst hil
              have hr := YES.out ⟨by omega, by omega, HV1.out, HV2.out, HV3.out, R.out.1, R.out.2.1⟩
              subst hr
              go_wp2
              go_ret
              exact ⟨rfl, R.out.2.2⟩
    · have hne : (x0.Parent != -1) = true := by rw [bne_iff_ne]; exact hpar
      have hr := NO.out (fun v => by have := (v.ord.1 0 hl0').1 rfl; rw [hp0] at this; exact hpar this)
      subst hr
      clear hpar NO YES hp0
      go_enter Tryd.func13, Tryd.ntmps13
      go_wp2_with fail
      refine (hq _).mono ?_
      rintro e w' ⟨rfl, rfl⟩
      go_wp2
      go_ret
      exact ⟨rfl, Below.refl _ _⟩
end Go.Proofs.YtimpieddkkkgfaaDoor
