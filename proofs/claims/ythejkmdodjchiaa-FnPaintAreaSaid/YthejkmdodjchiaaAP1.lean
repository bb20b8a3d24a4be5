/- FnPaintArea: the walk. -/
import Derived.Test.YthejkmdodjchiaaPD
import Derived.Test.YthejkmdodjchiaaPP
import Derived.Test.YthejkmdodjchiaaPS
import Derived.Deep.RegionHeld3
import Derived.IntWalk
namespace Go.Proofs.Ythejkmdodjchiaa
set_option linter.unusedVariables false
set_option linter.unusedSimpArgs false
open Go.RowKit Go.Lib

theorem held_begin {P : Program} {ops : Array Oper} {Q : Exit → Act → World → Prop} {S : World → Prop} {id : Nat} {a : Act} {w : World} {n : Nat} {L : List Bool} (hm : P.follows .mixedOrders = true) (hS : S w.drew) (hn : ops.size = n) (hL : Array.replicate n false = L.toArray)
    (h : S w.drew → wpAnyH P .any ops Q S n L.toArray a w.drew) : (Code.region id ops true).wp P Q a w := by
  subst hn
  refine wp_region_held_drew hm hS ?_
  rw [hL]
  exact h
/-- An operation that is taken first, its slot named. -/
theorem held_take {P : Program} {ops : Array Oper} {Q : Exit → Act → World → Prop} {md : Region.Mode} {S : World → Prop} {i d : Nat} {oi : Oper} {v : Value} {fuel : Nat} {listed : Array Bool} {a : Act} {w : World} (hi : ops[i]? = some oi) (hd : oi.dst = some d)
    (hs : Region.noSelect ops = true) (hf : Region.free md ops listed i = true) (hr : (Region.ready md ops listed).contains i = true)
    (hQ : ∀ c a w, Q (.panic c) (a.put oi.dst v) w → Q (.panic c) a w) (hy : YieldsIf P ops S oi v a) (hS : S w)
    (h : wpAnyH P md ops Q S fuel (listed.setIfInBounds i true) ⟨a.tmps.setIfInBounds d v, a.defers⟩ w) : wpAnyH P md ops Q S (fuel + 1) listed a w := by
  refine wpAnyH_take hi hs hf hr hQ hy hS ?_
  have e : a.put oi.dst v = ⟨a.tmps.setIfInBounds d v, a.defers⟩ := by rw [hd]; rfl
  rw [e]
  exact h

theorem mulP_bd {a b : Int} (ha : 0 ≤ a ∧ a ≤ 40) (hb : 0 ≤ b ∧ b ≤ 40) : 0 ≤ a * b ∧ a * b ≤ 1600 := by
  refine ⟨Int.mul_nonneg ha.1 hb.1, ?_⟩
  have h1 : a * b ≤ 40 * b := Int.mul_le_mul_of_nonneg_right ha.2 hb.1
  omega
theorem alloc_atR {W : World} {o : Obj} {k : Nat} (h : k = W.heap.size) : (W.alloc o).heap[k]? = some o := by
  subst h
  exact heap_alloc_new _ _
theorem drew_heapR {W : World} {k : Nat} {o : Obj} (h : W.heap[k]? = some o) : W.drew.heap[k]? = some o := h
theorem blk_allocR {W : World} {k : Nat} {o : Obj} (h : W.heap[k]? = some o) (o' : Obj) : (W.alloc o').heap[k]? = some o := al_old h o'
theorem row0R {W : World} {base g : Nat} {e : TypeId} {size : Nat} (h : W.heap[g]? = some (.cells #[] e (0, 0))) (hb : base ≤ g) : W.ownsRow base e size (.slice (some ⟨g, 0, none⟩) 0 0) 0 [] :=
  ⟨by simp, .inr ⟨g, 0, #[], rfl, hb, h, Nat.zero_le _, by simp [maxLen], by simp, by simp⟩⟩
theorem blk_rect {W : World} {g : Nat} {x : RectD} {B : Nat} (h : W.heap[g]? = some (.cells #[.int .i64 x.X, .int .i64 x.Y, .int .i64 x.W, .int .i64 x.H] 27 (0, 0))) (hB : g < B) : Arr W B 4 encRect (some ⟨g, 0, none⟩) [x] := fun _ => by
  refine ⟨g, 0, rfl, hB, fun i y hy j v hv => ?_⟩
  cases i with
  | zero =>
    simp at hy
    subst hy
    rw [cell_of_row W g _ _ _ _ h]
    simpa [encRect] using hv
  | succ i => simp at hy
theorem Below_drew1 {B : Nat} {w w' : World} (h : Below B w w') : Below B w w'.drew := ⟨h.os, h.tape, h.output, h.size, h.block⟩
theorem block_keptR {w w' : World} {g r : Nat} {o : Obj} (hg : w.grownBy w' (some r)) (h : w.heap[g]? = some o) (hne : g ≠ r) : w'.heap[g]? = some o := block_kept h hg hne
theorem snoc_arr {W : World} {base : Nat} {A : Option Addr} {c : Nat} {L : List RectD} {x : RectD} (h : W.ownsRow base 27 4 (.slice A (L.length + 1) c) (L.length + 1) ([] ++ L.flatMap encRect ++ [x].flatMap encRect)) : Arr W W.heap.size 4 encRect A (L ++ [x]) := by
  rw [List.nil_append, ← List.flatMap_append] at h
  exact (OwnA.of_rowN (enc := encRect) (k := 4) (fun _ => rfl) (show L.length + 1 = (L ++ [x]).length by simp) rfl h).arr
theorem SKR {w2 w' : World} {p off : Nat} {v0 v1 v2 v3 : Value} (d1 : w2.cell? ⟨p, off, none⟩ = some v0) (d2 : w2.cell? ⟨p, off + 1, none⟩ = some v1) (d3 : w2.cell? ⟨p, off + 2, none⟩ = some v2) (d4 : w2.cell? ⟨p, off + 3, none⟩ = some v3) (hp : p < w2.heap.size) (hb : Below w2.heap.size w2 w') :
    Below w2.heap.size w2 w' ∧ w'.cell? ⟨p, off, none⟩ = some v0 ∧ w'.cell? ⟨p, off + 1, none⟩ = some v1 ∧ w'.cell? ⟨p, off + 2, none⟩ = some v2 ∧ w'.cell? ⟨p, off + 3, none⟩ = some v3 :=
  ⟨hb, (hb.cell (p := ⟨p, off, none⟩) hp).trans d1, (hb.cell (p := ⟨p, off + 1, none⟩) hp).trans d2, (hb.cell (p := ⟨p, off + 2, none⟩) hp).trans d3, (hb.cell (p := ⟨p, off + 3, none⟩) hp).trans d4⟩

section
variable {P : Program} {t e : TypeId} {size bytes : Nat}
/-- The same at an operation with a guard that holds. -/
theorem step_append_arrW {α : Type} (W : World) {ops : Array Oper} {o : Oper} {a : Act} {K : Act → World → Prop} {Q : Exit → Act → World → Prop} {X : Prop} (E : Elt P t e size bytes) (hw : Region.wanted o (yielded ops a.tmps) = true) (s x : Operand)
    (ho : o.op = .call { callee := .builtin .append, args := #[s, x], argTypes := #[t, t] })
    (base : Nat) (v : Value) (n N : Nat) (xs : List Value) (hs : a.eval s = v) (hown : W.ownsRow base e size v n xs)
    (enc : α → List Value) (hk : ∀ x, (enc x).length = size) (h1 : ∀ x, ∀ u ∈ enc x, u.oneCell' = true) (B : Nat) (A : Option Addr) (L : List α) (m c : Nat) (hx : a.eval x = .slice A m c) (hm : m = L.length) (hr : Arr W B size enc A L) (hN : n + m = N) (hnm : N ≤ 1000000) (hbase : base ≤ W.heap.size)
    (h : ∀ A' c' w', w'.ownsRow base e size (.slice A' N c') N (xs ++ L.flatMap enc) → W.grownBy w' v.ownBlock → (∀ q, (Value.slice A' N c').ownBlock = some q → v.ownBlock = some q ∨ W.heap.size ≤ q) → K (a.put o.dst (.slice A' N c')) w') :
    if Region.wanted o (yielded ops a.tmps) = true then Oper.wp P o a W K Q else X := by
  rw [if_pos hw]
  exact wp_append_arr W E s x ho base v n N xs hs hown enc hk h1 B A L m c hx hm hr hN hnm hbase h
end

/-- What is known where points are counted. -/
theorem paint_facts {L : List RectD} (h : paintOk L = true) : L.length ≤ 6 ∧ (∀ r ∈ L, ((0 ≤ r.W ∧ r.W ≤ 40) ∧ (0 ≤ r.H ∧ r.H ≤ 40)) ∧ r.W * r.H ≤ (areaM L : Int)) ∧ (areaM L : Int) ≤ areasTo L L.length ∧ (∀ x, L[0]? = some x → L.length < 6 → areaV (L ++ [x]) = (areaM L : Int)) := by
  obtain ⟨⟨h6, hv⟩, hs⟩ := paintOk_iff.1 h
  have sd := sides_of hv
  refine ⟨h6, fun r hr => ?_, area_le sd, fun x hx hl => ?_⟩
  · have h1 := sd r hr
    have h2 := hs r hr
    refine ⟨by omega, ?_⟩
    have := area_ge sd hr
    have e : ((r.W.toNat * r.H.toNat : Nat) : Int) = r.W * r.H := by rw [Int.natCast_mul, Int.toNat_of_nonneg h1.1, Int.toNat_of_nonneg h1.2]
    rw [← e]
    exact Int.ofNat_le.2 this
  · have hm := List.mem_of_getElem? hx
    have hk : paintOk (L ++ [x]) = true := paintOk_iff.2 ⟨⟨by simp; omega, fun r hr => by
      rcases List.mem_append.1 hr with hr | hr
      · exact hv r hr
      · simp at hr; rw [hr]; exact hv x hm⟩, fun r hr => by
      rcases List.mem_append.1 hr with hr | hr
      · exact hs r hr
      · simp at hr; rw [hr]; exact hs x hm⟩
    rw [areaV_yes hk, area_twice sd hm]
theorem areasTo_bd {L : List RectD} (h : ∀ r ∈ L, (0 ≤ r.W ∧ r.W ≤ 40) ∧ (0 ≤ r.H ∧ r.H ≤ 40)) : ∀ i, i ≤ L.length → 0 ≤ areasTo L i ∧ areasTo L i ≤ 1600 * i
  | 0, _ => by simp [areasTo]
  | i + 1, hi => by
    have hr := List.getElem?_eq_getElem (l := L) (i := i) (by omega)
    generalize L[i] = r at hr
    obtain ⟨h1, h2⟩ := h r (List.mem_of_getElem? hr)
    have := mulP_bd h1 h2
    have ih := areasTo_bd h i (by omega)
    rw [areasTo_next hr]
    omega

set_option maxRecDepth 100000 in
set_option maxHeartbeats 8000000 in
theorem fnPaintArea_any (A : Option Addr) (cap : Nat) (bs : List Int) (w : World) (h : Code w A cap bs) :
    Calls Try.prog 3 #[.slice A bs.length cap] w (Yes w) := by
  have hcap := h.cap1
  have hcap2 := h.cap2
  by_cases hbig : 1048576 < bs.length
  · clear h
    go_enter Try.func3, Try.ntmps3
    go_wp2
    go_ret
    exact ⟨rfl, Below.refl _ _⟩
  · have hd := drawPaintArea_any A cap bs w h
    clear h
    go_enter Try.func3, Try.ntmps3
    go_wp2_with fail
    refine hd.mono ?_
    rintro e w1 ⟨A3, c3, L, rfl, hl, hc1, hc2, o3, b1⟩
    have B1 := hid b1
    have H1 := hid o3.arr
    have HI := hid (fun w h => paintArea_any A3 L c3 w (by omega) h)
    have HS := hid (fun w h => specPaintArea_any A3 L c3 w (by omega) h)
    have HF := hid (fun h => paint_facts (L := L) h)
    have HQ := hid (fun A M c w (hM : M.length ≤ 100) h => paintArea_any A M c w (by omega) h)
    clear b1 o3 hd
    cases hok : paintOk L
    · have e0 := areaV_no hok
      rw [e0] at HI HS
      clear e0 hok HF HQ
      go_wp2_with fail
      refine (HI.out _ H1.out).mono ?_
      rintro e w2 ⟨rfl, b2⟩
      have B2 := hid (chain B1.out b2)
      have H2 := hid (H1.out.next b2)
      clear b2
      go_wp2_with fail
      refine (HS.out _ H2.out).mono ?_
      rintro e w3 ⟨rfl, b3⟩
      have B3 := hid (chain B2.out b3)
      have H3 := hid (H2.out.next b3)
      clear b3
      go_wp2_with fail
      refine (HS.out _ H3.out).mono ?_
      rintro e w4 ⟨rfl, b4⟩
      have B4 := hid (chain B3.out b4)
      clear b4
      go_wp2
      go_ret
      exact ⟨rfl, B4.out⟩
    · have e0 := areaV_yes hok
      rw [e0] at HI HS
      have hab := area_bd hok
      obtain ⟨h6, hr, hle, htw⟩ := HF.out hok
      have HR := hid hr
      have HLE := hid hle
      have HTW := hid htw
      have HAB := hid (fun i hi => areasTo_bd (L := L) (fun r hm => (hr r hm).1) i hi)
      clear e0 hok HF hr hle htw
      generalize areaM L = R at *
      have hRR : ((R : Int) != (R : Int)) = false := by simp
      have hR0 : decide ((R : Int) < 0) = false := by simp
      go_wp2_with fail
      refine (HI.out _ H1.out).mono ?_
      rintro e w2 ⟨rfl, b2⟩
      have B2 := hid (chain B1.out b2)
      have H2 := hid (H1.out.next b2)
      clear b2
      go_wp2_with fail
      refine (HS.out _ H2.out).mono ?_
      rintro e w3 ⟨rfl, b3⟩
      have B3 := hid (chain B2.out b3)
      have H3 := hid (H2.out.next b3)
      clear b3
      go_wp2
      go_loopg [5, 6] L.length (fun gg s5 s6 wr => ∃ (i : Nat) (a : Int), i ≤ L.length ∧ L.length - i ≤ gg ∧ s6 = .int .i64 i ∧ s5 = .int .i64 a ∧ (0 ≤ a ∧ a ≤ 9600) ∧ Aside (a = areasTo L i) ∧ Aside (Below w3.heap.size w3 wr))
      case atStart => exact ⟨0, 0, Nat.zero_le _, by omega, rfl, rfl, ⟨by omega, by omega⟩, (show _ = _ by simp [areasTo]), Below.refl _ _⟩
      case round =>
        obtain ⟨i, a, hi, hgg, rfl, rfl, ⟨a0, a1⟩, SA, RR⟩ := hrel
        by_cases hlt : i < L.length
        · obtain ⟨p, off, x, rfl, hp, hx, d1, d2, d3, d4⟩ := (H3.out.below RR.out).atRect hlt
          obtain ⟨⟨x1, x2⟩, x3⟩ := HR.out x (List.mem_of_getElem? hx)
          obtain ⟨m0, m1⟩ := mulP_bd x1 x2
          have hnx := areasTo_next hx
          rw [← SA.out] at hnx
          have hbn := HAB.out (i + 1) (by omega)
          rw [hnx] at hbn
          have HNX := hid hnx
          have i1 : (0 : Int) ≤ (i : Int) := by omega
          have i2 : (i : Int) < (L.length : Int) := by omega
          have s1 : IntKind.i64.wrap (x.W * x.H) = x.W * x.H := IntWalk.i64_in _ (by omega)
          have s2 : IntKind.i64.wrap (a + x.W * x.H) = a + x.W * x.H := IntWalk.i64_in _ (by omega)
          have s3 : decide ((R : Int) < x.W * x.H) = false := by simp; omega
          have s4 : ¬ ((R : Int) < x.W * x.H) := by omega
          have b1 : 0 ≤ a + x.W * x.H := by omega
          have b2 : a + x.W * x.H ≤ 9600 := by omega
          have S1 := hid s1
          clear hx hnx
          go_wp2_with fail
          go_quiet (fail)
          clear s2
          have s1 := S1.out
          have R4 := hid (Below_drewN RR.out nq)
          go_wp2_with fail
          go_quiet (fail)
          go_wp2
          go_roundg (L.length - (i + 1))
          case measure => omega
          case rel => exact ⟨i + 1, a + x.W * x.H, by omega, by omega, by go_num, rfl, ⟨b1, b2⟩, (show _ = _ by rw [HNX.out]), Below_drewN RR.out _⟩
        · have hil : i = L.length := by omega
          have hle2 : (R : Int) ≤ a := by rw [SA.out, hil]; exact HLE.out
          have hle3 : decide ((R : Int) ≤ a) = true := by simp; exact hle2
          have hsw := RR.out.size
          clear SA
          by_cases hl0 : L.length = 0
          · have z1 : ((L.length : Int) == 0) = true := by rw [beq_iff_eq]; omega
            have z2 : (L.length == 0) = true := by rw [beq_iff_eq]; omega
            go_wp2_with fail
            refine wp_region_noPanic ?_
            refine held_begin (S := (fun _ => True)) (L := [false, false, false, false, false, false, false, false, false, false, false, false, false, false, false, false, false, false, false, false, false, false, false, false, false, false, false]) (n := 27) (by kernel_rfl) ?_ rfl rfl (fun hHeld => ?_)
            · (trivial)
            refine held_take (i := 0) (d := 58) (v := ?_) rfl rfl (by kernel_rfl) (by kernel_rfl) (by kernel_rfl) (fun _ _ _ h => h) (Or.inl ⟨by kernel_rfl, ?_⟩) hHeld ?_
            rotate_left
            · (intro w hSw; (try dsimp only at hSw); go_simp; first | done | with_reducible rfl)
            simp only [List.setIfInBounds_toArray, List.set_cons_zero, List.set_cons_succ]
            refine held_take (i := 1) (d := 59) (v := ?_) rfl rfl (by kernel_rfl) (by kernel_rfl) (by kernel_rfl) (fun _ _ _ h => h) (Or.inl ⟨by kernel_rfl, ?_⟩) hHeld ?_
            rotate_left
            · (intro w hSw; (try dsimp only at hSw); go_simp; first | done | with_reducible rfl)
            simp only [List.setIfInBounds_toArray, List.set_cons_zero, List.set_cons_succ]
            refine held_take (i := 2) (d := 60) (v := ?_) rfl rfl (by kernel_rfl) (by kernel_rfl) (by kernel_rfl) (fun _ _ _ h => h) (Or.inl ⟨by kernel_rfl, ?_⟩) hHeld ?_
            rotate_left
            · (intro w hSw; (try dsimp only at hSw); go_simp; first | done | with_reducible rfl)
            simp only [List.setIfInBounds_toArray, List.set_cons_zero, List.set_cons_succ]
            refine held_take (i := 3) (d := 61) (v := ?_) rfl rfl (by kernel_rfl) (by kernel_rfl) (by kernel_rfl) (fun _ _ _ h => h) (Or.inl ⟨by kernel_rfl, ?_⟩) hHeld ?_
            rotate_left
            · (intro w hSw; (try dsimp only at hSw); go_simp; first | done | with_reducible rfl)
            simp only [List.setIfInBounds_toArray, List.set_cons_zero, List.set_cons_succ]
            refine held_take (i := 4) (d := 62) (v := ?_) rfl rfl (by kernel_rfl) (by kernel_rfl) (by kernel_rfl) (fun _ _ _ h => h) (Or.inl ⟨by kernel_rfl, ?_⟩) hHeld ?_
            rotate_left
            · (intro w hSw; (try dsimp only at hSw); go_simp; first | done | with_reducible rfl)
            simp only [List.setIfInBounds_toArray, List.set_cons_zero, List.set_cons_succ]
            refine held_take (i := 5) (d := 63) (v := ?_) rfl rfl (by kernel_rfl) (by kernel_rfl) (by kernel_rfl) (fun _ _ _ h => h) (Or.inl ⟨by kernel_rfl, ?_⟩) hHeld ?_
            rotate_left
            · (intro w hSw; (try dsimp only at hSw); go_simp; first | done | with_reducible rfl)
            simp only [List.setIfInBounds_toArray, List.set_cons_zero, List.set_cons_succ]
            refine held_take (i := 6) (d := 64) (v := ?_) rfl rfl (by kernel_rfl) (by kernel_rfl) (by kernel_rfl) (fun _ _ _ h => h) (Or.inl ⟨by kernel_rfl, ?_⟩) hHeld ?_
            rotate_left
            · (intro w hSw; (try dsimp only at hSw); go_simp; first | done | with_reducible rfl)
            simp only [List.setIfInBounds_toArray, List.set_cons_zero, List.set_cons_succ]
            refine held_take (i := 7) (d := 65) (v := ?_) rfl rfl (by kernel_rfl) (by kernel_rfl) (by kernel_rfl) (fun _ _ _ h => h) (Or.inl ⟨by kernel_rfl, ?_⟩) hHeld ?_
            rotate_left
            · (intro w hSw; (try dsimp only at hSw); go_simp; first | done | with_reducible rfl)
            simp only [List.setIfInBounds_toArray, List.set_cons_zero, List.set_cons_succ]
            refine held_take (i := 8) (d := 66) (v := undef) rfl rfl (by kernel_rfl) (by kernel_rfl) (by kernel_rfl) (fun _ _ _ h => h) (Or.inr ⟨by kernel_rfl, rfl⟩) hHeld ?_
            simp only [List.setIfInBounds_toArray, List.set_cons_zero, List.set_cons_succ]
            refine held_take (i := 9) (d := 67) (v := undef) rfl rfl (by kernel_rfl) (by kernel_rfl) (by kernel_rfl) (fun _ _ _ h => h) (Or.inr ⟨by kernel_rfl, rfl⟩) hHeld ?_
            simp only [List.setIfInBounds_toArray, List.set_cons_zero, List.set_cons_succ]
            refine held_take (i := 10) (d := 68) (v := undef) rfl rfl (by kernel_rfl) (by kernel_rfl) (by kernel_rfl) (fun _ _ _ h => h) (Or.inr ⟨by kernel_rfl, rfl⟩) hHeld ?_
            simp only [List.setIfInBounds_toArray, List.set_cons_zero, List.set_cons_succ]
            refine held_take (i := 11) (d := 69) (v := ?_) rfl rfl (by kernel_rfl) (by kernel_rfl) (by kernel_rfl) (fun _ _ _ h => h) (Or.inl ⟨by kernel_rfl, ?_⟩) hHeld ?_
            rotate_left
            · (intro w hSw; (try dsimp only at hSw); go_simp; first | done | with_reducible rfl)
            simp only [List.setIfInBounds_toArray, List.set_cons_zero, List.set_cons_succ]
            refine held_take (i := 12) (d := 70) (v := ?_) rfl rfl (by kernel_rfl) (by kernel_rfl) (by kernel_rfl) (fun _ _ _ h => h) (Or.inl ⟨by kernel_rfl, ?_⟩) hHeld ?_
            rotate_left
            · (intro w hSw; (try dsimp only at hSw); go_simp; first | done | with_reducible rfl)
            simp only [List.setIfInBounds_toArray, List.set_cons_zero, List.set_cons_succ]
            refine held_take (i := 13) (d := 71) (v := undef) rfl rfl (by kernel_rfl) (by kernel_rfl) (by kernel_rfl) (fun _ _ _ h => h) (Or.inr ⟨by kernel_rfl, rfl⟩) hHeld ?_
            simp only [List.setIfInBounds_toArray, List.set_cons_zero, List.set_cons_succ]
            refine held_take (i := 14) (d := 72) (v := undef) rfl rfl (by kernel_rfl) (by kernel_rfl) (by kernel_rfl) (fun _ _ _ h => h) (Or.inr ⟨by kernel_rfl, rfl⟩) hHeld ?_
            simp only [List.setIfInBounds_toArray, List.set_cons_zero, List.set_cons_succ]
            refine held_take (i := 15) (d := 73) (v := undef) rfl rfl (by kernel_rfl) (by kernel_rfl) (by kernel_rfl) (fun _ _ _ h => h) (Or.inr ⟨by kernel_rfl, rfl⟩) hHeld ?_
            simp only [List.setIfInBounds_toArray, List.set_cons_zero, List.set_cons_succ]
            refine held_take (i := 16) (d := 74) (v := undef) rfl rfl (by kernel_rfl) (by kernel_rfl) (by kernel_rfl) (fun _ _ _ h => h) (Or.inr ⟨by kernel_rfl, rfl⟩) hHeld ?_
            simp only [List.setIfInBounds_toArray, List.set_cons_zero, List.set_cons_succ]
            refine held_take (i := 17) (d := 75) (v := undef) rfl rfl (by kernel_rfl) (by kernel_rfl) (by kernel_rfl) (fun _ _ _ h => h) (Or.inr ⟨by kernel_rfl, rfl⟩) hHeld ?_
            simp only [List.setIfInBounds_toArray, List.set_cons_zero, List.set_cons_succ]
            refine held_take (i := 18) (d := 76) (v := undef) rfl rfl (by kernel_rfl) (by kernel_rfl) (by kernel_rfl) (fun _ _ _ h => h) (Or.inr ⟨by kernel_rfl, rfl⟩) hHeld ?_
            simp only [List.setIfInBounds_toArray, List.set_cons_zero, List.set_cons_succ]
            refine held_take (i := 19) (d := 77) (v := undef) rfl rfl (by kernel_rfl) (by kernel_rfl) (by kernel_rfl) (fun _ _ _ h => h) (Or.inr ⟨by kernel_rfl, rfl⟩) hHeld ?_
            simp only [List.setIfInBounds_toArray, List.set_cons_zero, List.set_cons_succ]
            refine held_take (i := 20) (d := 78) (v := undef) rfl rfl (by kernel_rfl) (by kernel_rfl) (by kernel_rfl) (fun _ _ _ h => h) (Or.inr ⟨by kernel_rfl, rfl⟩) hHeld ?_
            simp only [List.setIfInBounds_toArray, List.set_cons_zero, List.set_cons_succ]
            refine held_take (i := 21) (d := 79) (v := undef) rfl rfl (by kernel_rfl) (by kernel_rfl) (by kernel_rfl) (fun _ _ _ h => h) (Or.inr ⟨by kernel_rfl, rfl⟩) hHeld ?_
            simp only [List.setIfInBounds_toArray, List.set_cons_zero, List.set_cons_succ]
            refine held_take (i := 22) (d := 80) (v := undef) rfl rfl (by kernel_rfl) (by kernel_rfl) (by kernel_rfl) (fun _ _ _ h => h) (Or.inr ⟨by kernel_rfl, rfl⟩) hHeld ?_
            simp only [List.setIfInBounds_toArray, List.set_cons_zero, List.set_cons_succ]
            refine held_take (i := 23) (d := 81) (v := undef) rfl rfl (by kernel_rfl) (by kernel_rfl) (by kernel_rfl) (fun _ _ _ h => h) (Or.inr ⟨by kernel_rfl, rfl⟩) hHeld ?_
            simp only [List.setIfInBounds_toArray, List.set_cons_zero, List.set_cons_succ]
            refine held_take (i := 24) (d := 82) (v := ?_) rfl rfl (by kernel_rfl) (by kernel_rfl) (by kernel_rfl) (fun _ _ _ h => h) (Or.inl ⟨by kernel_rfl, ?_⟩) hHeld ?_
            rotate_left
            · (intro w hSw; (try dsimp only at hSw); go_simp; first | done | with_reducible rfl)
            simp only [List.setIfInBounds_toArray, List.set_cons_zero, List.set_cons_succ]
            refine held_take (i := 25) (d := 83) (v := ?_) rfl rfl (by kernel_rfl) (by kernel_rfl) (by kernel_rfl) (fun _ _ _ h => h) (Or.inl ⟨by kernel_rfl, ?_⟩) hHeld ?_
            rotate_left
            · (intro w hSw; (try dsimp only at hSw); go_simp; first | done | with_reducible rfl)
            simp only [List.setIfInBounds_toArray, List.set_cons_zero, List.set_cons_succ]
            refine held_take (i := 26) (d := 2) (v := ?_) rfl rfl (by kernel_rfl) (by kernel_rfl) (by kernel_rfl) (fun _ _ _ h => h) (Or.inl ⟨by kernel_rfl, ?_⟩) hHeld ?_
            rotate_left
            · (intro w hSw; (try dsimp only at hSw); go_simp; first | done | with_reducible rfl)
            simp only [List.setIfInBounds_toArray, List.set_cons_zero, List.set_cons_succ]
            refine wpAnyH_done (by kernel_rfl) ?_ _
            refine NoPanic.normal ?_
            go_wp2
            go_ret
            exact ⟨rfl, Below_drew1 (chain B3.out RR.out)⟩
          · have z1 : ((L.length : Int) == 0) = false := by rw [beq_eq_false_iff_ne]; omega
            have z2 : (L.length == 0) = false := by rw [beq_eq_false_iff_ne]; exact hl0
            by_cases hl6 : L.length = 6
            · have z3 : ((L.length : Int) == 6) = true := by rw [beq_iff_eq]; omega
              have z4 : (L.length == 6) = true := by rw [beq_iff_eq]; omega
              go_wp2_with fail
              refine wp_region_noPanic ?_
              refine held_begin (S := (fun _ => True)) (L := [false, false, false, false, false, false, false, false, false, false, false, false, false, false, false, false, false, false, false, false, false, false, false, false, false, false, false]) (n := 27) (by kernel_rfl) ?_ rfl rfl (fun hHeld => ?_)
              · (trivial)
              refine held_take (i := 0) (d := 58) (v := ?_) rfl rfl (by kernel_rfl) (by kernel_rfl) (by kernel_rfl) (fun _ _ _ h => h) (Or.inl ⟨by kernel_rfl, ?_⟩) hHeld ?_
              rotate_left
              · (intro w hSw; (try dsimp only at hSw); go_simp; first | done | with_reducible rfl)
              simp only [List.setIfInBounds_toArray, List.set_cons_zero, List.set_cons_succ]
              refine held_take (i := 1) (d := 59) (v := ?_) rfl rfl (by kernel_rfl) (by kernel_rfl) (by kernel_rfl) (fun _ _ _ h => h) (Or.inl ⟨by kernel_rfl, ?_⟩) hHeld ?_
              rotate_left
              · (intro w hSw; (try dsimp only at hSw); go_simp; first | done | with_reducible rfl)
              simp only [List.setIfInBounds_toArray, List.set_cons_zero, List.set_cons_succ]
              refine held_take (i := 2) (d := 60) (v := ?_) rfl rfl (by kernel_rfl) (by kernel_rfl) (by kernel_rfl) (fun _ _ _ h => h) (Or.inl ⟨by kernel_rfl, ?_⟩) hHeld ?_
              rotate_left
              · (intro w hSw; (try dsimp only at hSw); go_simp; first | done | with_reducible rfl)
              simp only [List.setIfInBounds_toArray, List.set_cons_zero, List.set_cons_succ]
              refine held_take (i := 3) (d := 61) (v := ?_) rfl rfl (by kernel_rfl) (by kernel_rfl) (by kernel_rfl) (fun _ _ _ h => h) (Or.inl ⟨by kernel_rfl, ?_⟩) hHeld ?_
              rotate_left
              · (intro w hSw; (try dsimp only at hSw); go_simp; first | done | with_reducible rfl)
              simp only [List.setIfInBounds_toArray, List.set_cons_zero, List.set_cons_succ]
              refine held_take (i := 4) (d := 62) (v := ?_) rfl rfl (by kernel_rfl) (by kernel_rfl) (by kernel_rfl) (fun _ _ _ h => h) (Or.inl ⟨by kernel_rfl, ?_⟩) hHeld ?_
              rotate_left
              · (intro w hSw; (try dsimp only at hSw); go_simp; first | done | with_reducible rfl)
              simp only [List.setIfInBounds_toArray, List.set_cons_zero, List.set_cons_succ]
              refine held_take (i := 5) (d := 63) (v := ?_) rfl rfl (by kernel_rfl) (by kernel_rfl) (by kernel_rfl) (fun _ _ _ h => h) (Or.inl ⟨by kernel_rfl, ?_⟩) hHeld ?_
              rotate_left
              · (intro w hSw; (try dsimp only at hSw); go_simp; first | done | with_reducible rfl)
              simp only [List.setIfInBounds_toArray, List.set_cons_zero, List.set_cons_succ]
              refine held_take (i := 6) (d := 64) (v := ?_) rfl rfl (by kernel_rfl) (by kernel_rfl) (by kernel_rfl) (fun _ _ _ h => h) (Or.inl ⟨by kernel_rfl, ?_⟩) hHeld ?_
              rotate_left
              · (intro w hSw; (try dsimp only at hSw); go_simp; first | done | with_reducible rfl)
              simp only [List.setIfInBounds_toArray, List.set_cons_zero, List.set_cons_succ]
              refine held_take (i := 7) (d := 65) (v := ?_) rfl rfl (by kernel_rfl) (by kernel_rfl) (by kernel_rfl) (fun _ _ _ h => h) (Or.inl ⟨by kernel_rfl, ?_⟩) hHeld ?_
              rotate_left
              · (intro w hSw; (try dsimp only at hSw); go_simp; first | done | with_reducible rfl)
              simp only [List.setIfInBounds_toArray, List.set_cons_zero, List.set_cons_succ]
              refine held_take (i := 8) (d := 66) (v := ?_) rfl rfl (by kernel_rfl) (by kernel_rfl) (by kernel_rfl) (fun _ _ _ h => h) (Or.inl ⟨by kernel_rfl, ?_⟩) hHeld ?_
              rotate_left
              · (intro w hSw; (try dsimp only at hSw); go_simp; first | done | with_reducible rfl)
              simp only [List.setIfInBounds_toArray, List.set_cons_zero, List.set_cons_succ]
              refine held_take (i := 9) (d := 67) (v := ?_) rfl rfl (by kernel_rfl) (by kernel_rfl) (by kernel_rfl) (fun _ _ _ h => h) (Or.inl ⟨by kernel_rfl, ?_⟩) hHeld ?_
              rotate_left
              · (intro w hSw; (try dsimp only at hSw); go_simp; first | done | with_reducible rfl)
              simp only [List.setIfInBounds_toArray, List.set_cons_zero, List.set_cons_succ]
              refine held_take (i := 10) (d := 68) (v := ?_) rfl rfl (by kernel_rfl) (by kernel_rfl) (by kernel_rfl) (fun _ _ _ h => h) (Or.inl ⟨by kernel_rfl, ?_⟩) hHeld ?_
              rotate_left
              · (intro w hSw; (try dsimp only at hSw); go_simp; first | done | with_reducible rfl)
              simp only [List.setIfInBounds_toArray, List.set_cons_zero, List.set_cons_succ]
              refine held_take (i := 11) (d := 69) (v := ?_) rfl rfl (by kernel_rfl) (by kernel_rfl) (by kernel_rfl) (fun _ _ _ h => h) (Or.inl ⟨by kernel_rfl, ?_⟩) hHeld ?_
              rotate_left
              · (intro w hSw; (try dsimp only at hSw); go_simp; first | done | with_reducible rfl)
              simp only [List.setIfInBounds_toArray, List.set_cons_zero, List.set_cons_succ]
              refine held_take (i := 12) (d := 70) (v := ?_) rfl rfl (by kernel_rfl) (by kernel_rfl) (by kernel_rfl) (fun _ _ _ h => h) (Or.inl ⟨by kernel_rfl, ?_⟩) hHeld ?_
              rotate_left
              · (intro w hSw; (try dsimp only at hSw); go_simp; first | done | with_reducible rfl)
              simp only [List.setIfInBounds_toArray, List.set_cons_zero, List.set_cons_succ]
              refine held_take (i := 13) (d := 71) (v := undef) rfl rfl (by kernel_rfl) (by kernel_rfl) (by kernel_rfl) (fun _ _ _ h => h) (Or.inr ⟨by kernel_rfl, rfl⟩) hHeld ?_
              simp only [List.setIfInBounds_toArray, List.set_cons_zero, List.set_cons_succ]
              refine held_take (i := 14) (d := 72) (v := undef) rfl rfl (by kernel_rfl) (by kernel_rfl) (by kernel_rfl) (fun _ _ _ h => h) (Or.inr ⟨by kernel_rfl, rfl⟩) hHeld ?_
              simp only [List.setIfInBounds_toArray, List.set_cons_zero, List.set_cons_succ]
              refine held_take (i := 15) (d := 73) (v := undef) rfl rfl (by kernel_rfl) (by kernel_rfl) (by kernel_rfl) (fun _ _ _ h => h) (Or.inr ⟨by kernel_rfl, rfl⟩) hHeld ?_
              simp only [List.setIfInBounds_toArray, List.set_cons_zero, List.set_cons_succ]
              refine held_take (i := 16) (d := 74) (v := undef) rfl rfl (by kernel_rfl) (by kernel_rfl) (by kernel_rfl) (fun _ _ _ h => h) (Or.inr ⟨by kernel_rfl, rfl⟩) hHeld ?_
              simp only [List.setIfInBounds_toArray, List.set_cons_zero, List.set_cons_succ]
              refine held_take (i := 17) (d := 75) (v := undef) rfl rfl (by kernel_rfl) (by kernel_rfl) (by kernel_rfl) (fun _ _ _ h => h) (Or.inr ⟨by kernel_rfl, rfl⟩) hHeld ?_
              simp only [List.setIfInBounds_toArray, List.set_cons_zero, List.set_cons_succ]
              refine held_take (i := 18) (d := 76) (v := undef) rfl rfl (by kernel_rfl) (by kernel_rfl) (by kernel_rfl) (fun _ _ _ h => h) (Or.inr ⟨by kernel_rfl, rfl⟩) hHeld ?_
              simp only [List.setIfInBounds_toArray, List.set_cons_zero, List.set_cons_succ]
              refine held_take (i := 19) (d := 77) (v := undef) rfl rfl (by kernel_rfl) (by kernel_rfl) (by kernel_rfl) (fun _ _ _ h => h) (Or.inr ⟨by kernel_rfl, rfl⟩) hHeld ?_
              simp only [List.setIfInBounds_toArray, List.set_cons_zero, List.set_cons_succ]
              refine held_take (i := 20) (d := 78) (v := undef) rfl rfl (by kernel_rfl) (by kernel_rfl) (by kernel_rfl) (fun _ _ _ h => h) (Or.inr ⟨by kernel_rfl, rfl⟩) hHeld ?_
              simp only [List.setIfInBounds_toArray, List.set_cons_zero, List.set_cons_succ]
              refine held_take (i := 21) (d := 79) (v := undef) rfl rfl (by kernel_rfl) (by kernel_rfl) (by kernel_rfl) (fun _ _ _ h => h) (Or.inr ⟨by kernel_rfl, rfl⟩) hHeld ?_
              simp only [List.setIfInBounds_toArray, List.set_cons_zero, List.set_cons_succ]
              refine held_take (i := 22) (d := 80) (v := undef) rfl rfl (by kernel_rfl) (by kernel_rfl) (by kernel_rfl) (fun _ _ _ h => h) (Or.inr ⟨by kernel_rfl, rfl⟩) hHeld ?_
              simp only [List.setIfInBounds_toArray, List.set_cons_zero, List.set_cons_succ]
              refine held_take (i := 23) (d := 81) (v := undef) rfl rfl (by kernel_rfl) (by kernel_rfl) (by kernel_rfl) (fun _ _ _ h => h) (Or.inr ⟨by kernel_rfl, rfl⟩) hHeld ?_
              simp only [List.setIfInBounds_toArray, List.set_cons_zero, List.set_cons_succ]
              refine held_take (i := 24) (d := 82) (v := ?_) rfl rfl (by kernel_rfl) (by kernel_rfl) (by kernel_rfl) (fun _ _ _ h => h) (Or.inl ⟨by kernel_rfl, ?_⟩) hHeld ?_
              rotate_left
              · (intro w hSw; (try dsimp only at hSw); go_simp; first | done | with_reducible rfl)
              simp only [List.setIfInBounds_toArray, List.set_cons_zero, List.set_cons_succ]
              refine held_take (i := 25) (d := 83) (v := ?_) rfl rfl (by kernel_rfl) (by kernel_rfl) (by kernel_rfl) (fun _ _ _ h => h) (Or.inl ⟨by kernel_rfl, ?_⟩) hHeld ?_
              rotate_left
              · (intro w hSw; (try dsimp only at hSw); go_simp; first | done | with_reducible rfl)
              simp only [List.setIfInBounds_toArray, List.set_cons_zero, List.set_cons_succ]
              refine held_take (i := 26) (d := 2) (v := ?_) rfl rfl (by kernel_rfl) (by kernel_rfl) (by kernel_rfl) (fun _ _ _ h => h) (Or.inl ⟨by kernel_rfl, ?_⟩) hHeld ?_
              rotate_left
              · (intro w hSw; (try dsimp only at hSw); go_simp; first | done | with_reducible rfl)
              simp only [List.setIfInBounds_toArray, List.set_cons_zero, List.set_cons_succ]
              refine wpAnyH_done (by kernel_rfl) ?_ _
              refine NoPanic.normal ?_
              go_wp2
              go_ret
              exact ⟨rfl, Below_drew1 (chain B3.out RR.out)⟩
            · have z3 : ((L.length : Int) == 6) = false := by rw [beq_eq_false_iff_ne]; omega
              have z4 : (L.length == 6) = false := by rw [beq_eq_false_iff_ne]; exact hl6
              obtain ⟨wo, hwo⟩ : ∃ wo : World, wo = wr := ⟨_, rfl⟩
              subst hwo
              have H4 := H3.out.next RR.out
              obtain ⟨p, off, x, rfl, hp, hx, d1, d2, d3, d4⟩ := H4.atRect (show 0 < L.length by omega)
              simp only [Nat.zero_mul, Nat.add_zero] at d1 d2 d3 d4
              have j0 : (0 : Int) < (L.length : Int) := by omega
              have j3 : 0 < L.length := by omega
              have AT := hid (H4.below (Below.refl _ _))
              have D1 := hid d1
              have D2 := hid d2
              have D3 := hid d3
              have D4 := hid d4
              have hav := HTW.out x hx (by omega)
              have hp2 := fun A c W h => HQ.out A (L ++ [x]) c W (by simp; omega) h
              rw [hav, show (L ++ [x]).length = L.length + 1 by simp] at hp2
              have HP2 := hid hp2
              have hRe : ((R : Int) == (R : Int)) = true := by simp
              clear hx hav hp2 H4 HTW HQ
              go_wp2_with fail
              go_region_held3 (fun w' => Below wo.heap.size wo w' ∧ w'.cell? ⟨p, off, none⟩ = some (.int .i64 x.X) ∧ w'.cell? ⟨p, off + 1, none⟩ = some (.int .i64 x.Y) ∧ w'.cell? ⟨p, off + 2, none⟩ = some (.int .i64 x.W) ∧ w'.cell? ⟨p, off + 3, none⟩ = some (.int .i64 x.H)) ((refine SKR D1.out D2.out D3.out D4.out hp ?_; first | assumption | exact (by assumption : _ ∧ _).1 | exact Below.refl _ _ | exact (Below.refl _ _).drew | (exact Below.alloc (And.left (by assumption)) (Below.size (And.left (by assumption))) _) | (exact Below.alloc hb4 hb4.size _))) ((first
                | (refine step_append_arrW _ eltRectG (by first | rfl | kernel_rfl | (simp [Region.wanted, yielded]; done)) (.tmp 71) (.tmp 72) (by rfl) wo.heap.size _ 0 L.length [] (by rfl) (row0R (by (try refine drew_heapR ?_); first | (refine alloc_atR ?_; (first | rfl | (simp; done))) | (refine blk_allocR ?_ _; refine alloc_atR ?_; (first | rfl | (simp; done)))) (by first | exact Nat.le_refl _ | (simp; done))) encRect (fun _ => rfl) oneRect wo.heap.size (some ⟨p, off, none⟩) L L.length c3 (by rfl) rfl (AT.out.below (And.left (by assumption))) (by omega) (by omega) (Below.size (And.left (by assumption))) ?_; intro A1 c1 w4 own4 gr4 _; have hb4 : Below wo.heap.size wo w4 := Below.grown (And.left (by assumption)) gr4 (Below.size (And.left (by assumption))) (by intro q hq; simp [Value.ownBlock] at hq; first | omega | (simp at hq; omega)))
                | (refine step_append_arrW _ eltRectG (by first | rfl | kernel_rfl | (simp [Region.wanted, yielded]; done)) (.tmp 73) (.tmp 77) (by rfl) wo.heap.size _ L.length (L.length + 1) _ (by rfl) (by first | exact own4 | exact own4.alloc _) encRect (fun _ => rfl) oneRect _ _ [x] 1 1 (by rfl) (by rfl) (blk_rect (x := x) (by first | (refine alloc_atR ?_; (first | rfl | (simp; done))) | (refine block_keptR gr4 ?_ ?_; (try refine drew_heapR ?_); (first | (refine alloc_atR ?_; first | rfl | simp) | (refine blk_allocR ?_ _; refine alloc_atR ?_; first | rfl | simp)); (first | omega | simp))) (Nat.lt_succ_self _)) (by omega) (by omega) (Below.size (And.left (by assumption))) ?_; intro A2 c2 w5 own5 gr5 _; have hb5 : Below wo.heap.size wo w5 := Below.grown (And.left (by assumption)) gr5 (Below.size (And.left (by assumption))) (fun q hq => (own4.lt q hq).1))
                | (go_simp; go_at_call 16; refine (HP2.out _ _ _ (snoc_arr own5)).mono ?_; rintro e w7 ⟨rfl, hb7⟩; have hb8 : Below wo.heap.size wo w7 := hb5.trans (hb7.mono hb5.size); dsimp only)))
              go_wp2
              all_goals
                go_ret
                exact ⟨rfl, chain (chain B3.out RR.out) hb8⟩
end Go.Proofs.Ythejkmdodjchiaa
