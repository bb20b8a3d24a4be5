/- impl.JoinPaint: the walk. -/
import Derived.Test.YthejkmdodjchiaaJ2
import Derived.Test.YthejkmdodjchiaaDR2
namespace Go.Proofs.Ythejkmdodjchiaa
set_option linter.unusedVariables false
set_option linter.unusedSimpArgs false
open Go.RowKit Go.Lib

set_option maxHeartbeats 400000 in
theorem clipRect_any (A : Option Addr) (n c : Nat) (w : World) (hn : n ≤ c) :
    Calls Try.prog 63 #[.slice A n c] w fun e w' => e = .returned (.slice A n n) ∧ w = w' := by
  go_enter Try.func63, Try.ntmps63
  go_wp2
  go_ret
  exact ⟨rfl, rfl⟩

theorem row_set1 {w : World} {base g n c k j : Nat} {e : TypeId} {out : List RectD} {y y' : RectD} {v : Value} (h : w.ownsRow base e 4 (.slice (some ⟨g, 0, none⟩) n c) n (out.flatMap encRect)) (hy : out[k]? = some y) (hj : j < 4) (he : encRect y' = (encRect y).set j v) :
    (w.setCell ⟨g, k * 4 + j, none⟩ v).ownsRow base e 4 (.slice (some ⟨g, 0, none⟩) n c) n ((out.set k y').flatMap encRect) := by
  have s := (h.stored (k * 4 + j) v).1
  rw [flat_set (enc := encRect) (k := 4) (fun _ => rfl) hy hj he] at s
  exact s
/-- A rectangle written into a row of the call's own. -/
theorem row_setRect {w : World} {base g n c k : Nat} {e : TypeId} {out : List RectD} {y : RectD} (h : w.ownsRow base e 4 (.slice (some ⟨g, 0, none⟩) n c) n (out.flatMap encRect)) (hy : out[k]? = some y) (x : RectD) :
    ((((w.setCell ⟨g, k * 4, none⟩ (.int .i64 x.X)).setCell ⟨g, k * 4 + 1, none⟩ (.int .i64 x.Y)).setCell ⟨g, k * 4 + 2, none⟩ (.int .i64 x.W)).setCell ⟨g, k * 4 + 3, none⟩ (.int .i64 x.H)).ownsRow base e 4 (.slice (some ⟨g, 0, none⟩) n c) n ((out.set k x).flatMap encRect) ∧
      w.grownBy ((((w.setCell ⟨g, k * 4, none⟩ (.int .i64 x.X)).setCell ⟨g, k * 4 + 1, none⟩ (.int .i64 x.Y)).setCell ⟨g, k * 4 + 2, none⟩ (.int .i64 x.W)).setCell ⟨g, k * 4 + 3, none⟩ (.int .i64 x.H)) (some g) := by
  have hk := (List.getElem?_eq_some_iff.1 hy).1
  have s0 := row_set1 h hy (j := 0) (by omega) (y' := (⟨x.X, y.Y, y.W, y.H⟩ : RectD)) (v := .int .i64 x.X) rfl
  have s1 := row_set1 s0 (y := (⟨x.X, y.Y, y.W, y.H⟩ : RectD)) (List.getElem?_set_self hk) (j := 1) (by omega) (y' := (⟨x.X, x.Y, y.W, y.H⟩ : RectD)) (v := .int .i64 x.Y) rfl
  have s2 := row_set1 s1 (y := (⟨x.X, x.Y, y.W, y.H⟩ : RectD)) (List.getElem?_set_self (by simpa using hk)) (j := 2) (by omega) (y' := (⟨x.X, x.Y, x.W, y.H⟩ : RectD)) (v := .int .i64 x.W) rfl
  have s3 := row_set1 s2 (y := (⟨x.X, x.Y, x.W, y.H⟩ : RectD)) (List.getElem?_set_self (by simpa using hk)) (j := 3) (by omega) (y' := (⟨x.X, x.Y, x.W, x.H⟩ : RectD)) (v := .int .i64 x.H) rfl
  simp only [List.set_set] at s3
  exact ⟨s3, grown_set (grown_set (grown_set (grown_set (World.grownBy.refl w (some g)) _ _) _ _) _ _) _ _⟩
/-- The cells of a rectangle of a row. -/
theorem row_cells {w : World} {base g n c k : Nat} {e : TypeId} {out : List RectD} {y : RectD} (h : w.ownsRow base e 4 (.slice (some ⟨g, 0, none⟩) n c) n (out.flatMap encRect)) (hn : n = out.length) (hy : out[k]? = some y) :
    (w.cell? ⟨g, k * 4, none⟩ = some (.int .i64 y.X) ∧ w.cell? ⟨g, k * 4 + 1, none⟩ = some (.int .i64 y.Y) ∧ w.cell? ⟨g, k * 4 + 2, none⟩ = some (.int .i64 y.W) ∧ w.cell? ⟨g, k * 4 + 3, none⟩ = some (.int .i64 y.H)) ∧
      (w.frozen? ⟨g, k * 4, none⟩ = false ∧ w.frozen? ⟨g, k * 4 + 1, none⟩ = false ∧ w.frozen? ⟨g, k * 4 + 2, none⟩ = false ∧ w.frozen? ⟨g, k * 4 + 3, none⟩ = false) := by
  have hk := (List.getElem?_eq_some_iff.1 hy).1
  have q := fun j v hv => flat_get (enc := encRect) (k := 4) (fun _ => rfl) hy (j := j) (v := v) hv
  refine ⟨⟨?_, ?_, ?_, ?_⟩, h.frozenAt _, h.frozenAt _, h.frozenAt _, h.frozenAt _⟩
  · rw [h.cellAt _ (by omega)]; simpa using q 0 _ rfl
  · rw [h.cellAt _ (by omega)]; exact q 1 _ rfl
  · rw [h.cellAt _ (by omega)]; exact q 2 _ rfl
  · rw [h.cellAt _ (by omega)]; exact q 3 _ rfl

theorem drop_at {α : Type} {L : List α} {i : Nat} {x : α} (h : L[i]? = some x) : L.drop i = x :: L.drop (i + 1) := by
  obtain ⟨hi, rfl⟩ := List.getElem?_eq_some_iff.1 h
  exact List.drop_eq_getElem_cons hi
theorem joinTo_no {out L : List RectD} {r : RectD} (h : atMeet out r < 0) : joinTo out (r :: L) = joinTo (out ++ [r]) L := by rw [joinTo, if_pos h]
theorem atMeet_at {out : List RectD} {r : RectD} (h : ¬ atMeet out r < 0) : ∃ (k : Nat) (y : RectD), atMeet out r = k ∧ out[k]? = some y :=
  ⟨(atMeet out r).toNat, _, by omega, List.getElem?_eq_getElem (atMeet_lt h)⟩
theorem joinTo_at {out L : List RectD} {r y : RectD} {k : Nat} (h : atMeet out r = k) (hy : out[k]? = some y) : joinTo out (r :: L) = if validR (hullR y r) then joinTo (out.set k (hullR y r)) L else none := by
  have e : out.getD k zeroR = y := by rw [List.getD_eq_getElem?_getD, hy]; rfl
  rw [joinTo, if_neg (by omega), h]
  simp only [Int.toNat_natCast]
  rw [e]
theorem valid_snoc {out : List RectD} {x : RectD} (h : ∀ r ∈ out, validR r = true) (hx : validR x = true) : ∀ r ∈ out ++ [x], validR r = true := fun r hr => by
  rcases List.mem_append.1 hr with hr | hr
  · exact h r hr
  · simp at hr; rw [hr]; exact hx
theorem valid_set {out : List RectD} {x : RectD} {k : Nat} (h : ∀ r ∈ out, validR r = true) (hx : validR x = true) : ∀ r ∈ out.set k x, validR r = true := fun r hr => by
  rcases List.mem_or_eq_of_mem_set hr with hr | rfl
  · exact h r hr
  · exact hx

/-- The loops' relation: what was kept, and what comes of it. -/
def JRel (w : World) (L : List RectD) (i : Nat) (A : Option Addr) (n c : Nat) (out : List RectD) (wr : World) : Prop :=
  n = out.length ∧ out.length ≤ i ∧ (∀ r ∈ out, validR r = true) ∧ joinTo [] L = joinTo out (L.drop i) ∧ wr.ownsRow w.heap.size 27 4 (.slice A n c) n (out.flatMap encRect) ∧ Below w.heap.size w wr

theorem JRel.al {w : World} {L : List RectD} {i : Nat} {A : Option Addr} {n c : Nat} {out : List RectD} {wr : World} (h : JRel w L i A n c out wr) (o : Obj) : JRel w L i A n c out (wr.alloc o) := by
  obtain ⟨h1, h2, h3, h4, h5, h6⟩ := h
  exact ⟨h1, h2, h3, h4, h5.alloc o, h6.alloc h6.size o⟩

theorem cell_al1 {wr w6 : World} {o : Obj} {b off : Nat} {v : Value} (h : Below (wr.alloc o).drew.heap.size (wr.alloc o).drew w6) (hb : b < wr.heap.size) (u : wr.cell? ⟨b, off, none⟩ = some v) : w6.cell? ⟨b, off, none⟩ = some v := by
  rw [h.cell (p := ⟨b, off, none⟩) (by show b < (wr.alloc o).heap.size; simp; omega)]
  show (wr.alloc o).cell? _ = _
  rw [World.cell?_alloc_lt wr o _ hb]
  exact u
theorem blk_al1 {wr w6 : World} {o : Obj} (h : Below (wr.alloc o).drew.heap.size (wr.alloc o).drew w6) : w6.heap[wr.heap.size]? = some o :=
  (h.block _ (by show _ < (wr.alloc o).heap.size; simp)).trans (heap_alloc_new wr o)
theorem below_al1 {wr w6 : World} {o : Obj} (h : Below (wr.alloc o).drew.heap.size (wr.alloc o).drew w6) : Below wr.heap.size wr w6 :=
  (below_al (Below.refl _ _) rfl o).trans ((below_undrew h).mono (by show _ ≤ (wr.alloc o).heap.size; simp))

set_option maxHeartbeats 4000000 in
theorem joinPaint_any (A : Option Addr) (L : List RectD) (c : Nat) (w : World) (hL : L.length ≤ 1048576) (h : Arr w w.heap.size 4 encRect A L) :
    Calls Try.prog 35 #[.slice A L.length c] w (GivesB 4 encRect (joinL L) (joinOk L) w) := by
  have hk := rectsOk_any A L c 6 w (by omega) h
  have H := hid h
  have hj : joinV L = if rectsB L 6 then joinTo [] L else none := rfl
  have hO : joinOk L = (joinV L).isSome := rfl
  have hV : joinL L = (joinV L).getD [] := rfl
  rw [hO, hV, hj]
  clear h hj hO hV
  cases ev : rectsB L 6
  · rw [ev] at hk
    have HK := hid hk
    clear hk ev
    simp only [Bool.false_eq_true, if_false, Option.isSome_none, Option.getD_none]
    go_enter Try.func35, Try.ntmps35
    go_wp2_with fail
    refine HK.out.mono ?_
    rintro e w1 ⟨rfl, b1⟩
    have B1 := hid b1
    clear b1
    go_wp2
    go_ret2
    exact GivesB.nil rfl B1.out
  · rw [ev] at hk
    have HK := hid hk
    obtain ⟨hl6, hval⟩ := rectsB_iff.1 ev
    have HVAL := hid hval
    clear hk ev hval
    simp only [if_true]
    have R00 : ∀ w1 w4, w4.ownsRow w1.heap.size 27 4 (.slice (some ⟨w1.heap.size, 0, none⟩) 0 L.length) 0 [] → Below w1.heap.size w1 w4 → Aside (JRel w1 L 0 (some ⟨w1.heap.size, 0, none⟩) 0 L.length [] w4) := fun w1 w4 ho hb => ⟨rfl, Nat.le_refl _, fun r hr => (List.not_mem_nil hr).elim, by rw [List.drop_zero], ho, hb⟩
    go_enter Try.func35, Try.ntmps35
    go_wp2_with fail
    refine HK.out.mono ?_
    rintro e w1 ⟨rfl, b1⟩
    have B1 := hid b1
    have H1 := hid (H.out.next b1)
    clear b1
    go_wp2_with (first | (at_make; refine wpList_make0 _ eltRectG rfl _ (.tmp 14) rfl L.length rfl rfl (by omega) ?_; intro w4 own4 hb4) | fail)
    have R0 := R00 _ _ own4 hb4
    clear own4 hb4 R00
    go_wp2
    go_loopg [4, 18] L.length (fun gg s4 s18 wr => ∃ (i n c4 : Nat) (A4 : Option Addr) (out : List RectD), i ≤ L.length ∧ L.length - i ≤ gg ∧ s4 = .slice A4 n c4 ∧ s18 = .int .i64 i ∧ Aside (JRel w1 L i A4 n c4 out wr))
    case atStart => exact ⟨0, _, _, _, [], Nat.zero_le _, by omega, rfl, rfl, R0⟩
    case round =>
      obtain ⟨i, n, c4, A4, out, hi, hgg, rfl, rfl, R⟩ := hrel
      clear R0
      obtain ⟨hn, hoi, hov, hjt, hown, hbl⟩ := R.out
      have HN := hid hn
      have HOV := hid hov
      have HJT := hid hjt
      have HO := hid hown
      have HB := hid hbl
      have hn6 : n ≤ 6 := by omega
      have hni : n ≤ i := by omega
      have hsz := hbl.size
      clear R hn hov hjt hown hbl
      by_cases hlt : i < L.length
      · obtain ⟨p, off, x, rfl, hp, hx, d1, d2, d3, d4⟩ := (H1.out.below HB.out).atRect hlt
        have hxv := HVAL.out x (List.mem_of_getElem? hx)
        have HXV := hid hxv
        have HD := hid (drop_at hx)
        have i1 : (0 : Int) ≤ (i : Int) := by omega
        have i2 : (i : Int) < (L.length : Int) := by omega
        have hW : ∀ o, o = Obj.cells #[.int .i64 x.X, .int .i64 x.Y, .int .i64 x.W, .int .i64 x.H] 27 → Calls Try.prog 60 #[.slice A4 n c4, .func (.func 61) #[] #[.pointer (some ⟨wr.heap.size, 0, none⟩)]] (wr.alloc o) fun e w' => e = .returned (.int .i64 (atMeet out x)) ∧ Below (wr.alloc o).heap.size (wr.alloc o) w' := fun o ho => by
          have q := indexFuncRect_any 61 #[.pointer (some ⟨wr.heap.size, 0, none⟩)] (fun q => meetsR q x) (enters_of Try.func61 (by kernel_rfl) rfl) A4 out c4 (wr.alloc o) (by have := HN.out; omega)
            (by have := OwnA.of_rowN (enc := encRect) (k := 4) (fun _ => rfl) HN.out rfl (HO.out.alloc o); exact this.arr)
            (fun W' y hy hb' => joinPred_any y x wr.heap.size W' (HOV.out y hy) hxv (by rw [hb'.block _ (by simp), ho]; exact heap_alloc_new wr _))
          rw [← HN.out] at q
          exact q
        have HIC := hid (hW _ rfl)
        clear hx hxv hW
        generalize hq : atMeet out x = q at HIC
        go_wp2_with fail
        refine HIC.out.mono ?_
        rintro e w3 ⟨rfl, b3⟩
        have hz3 : wr.heap.size < w3.heap.size := by have := b3.size; simp at this; omega
        have X3 := hid ((b3.block wr.heap.size (by simp)).trans (heap_alloc_new wr _))
        have own3 := hid (row_next (HO.out.alloc (.cells #[.int .i64 x.X, .int .i64 x.Y, .int .i64 x.W, .int .i64 x.H] 27)) b3)
        have B3 := hid (chain HB.out (((Below.refl _ _).alloc (Nat.le_refl _) _).trans (b3.mono (by simp))))
        obtain ⟨⟨k0, k1, k2, k3⟩, f0, f1, f2, f3⟩ := cells4j X3.out
        clear b3 HIC
        by_cases hm : q < 0
        · have HJ1 : Aside (joinTo [] L = joinTo (out ++ [x]) (L.drop (i + 1))) := by
            show _ = _
            rw [HJT.out, HD.out, joinTo_no (by rw [hq]; exact hm)]
          clear hq
          go_wp2_with (at_builtin; refine wpList_push eltRectG rfl (.tmp 27) (.tmp 29) rfl w1.heap.size _ n _ own3.out (by omega) (by omega) _ _ rfl rfl rfl rfl (fun q hq => ocRect x q hq) ?_; intro A9 c9 w9 own9 gr9 at9)
          have F : Aside (JRel w1 L (i + 1) A9 (n + 1) c9 (out ++ [x]) w9) :=
            ⟨by rw [HN.out]; simp, by have := HN.out; simp; omega, valid_snoc HOV.out HXV.out, HJ1.out, by rw [List.flatMap_append]; exact own9, B3.out.grown gr9 (by have := B3.out.size; omega) (fun g hg => (own3.out.lt g hg).1)⟩
          clear own9 gr9 at9
          go_wp2
          go_roundg (L.length - (i + 1))
          case measure => omega
          case rel => exact ⟨i + 1, n + 1, c9, A9, out ++ [x], by omega, by omega, rfl, by go_num, F⟩
        · obtain ⟨k, y, hk, hy⟩ := atMeet_at (out := out) (r := x) (by rw [hq]; exact hm)
          have hko : k < n := by rw [HN.out]; exact (List.getElem?_eq_some_iff.1 hy).1
          obtain rfl : q = (k : Int) := by rw [← hq]; exact hk
          have hyv := HOV.out y (List.mem_of_getElem? hy)
          have hJ := joinTo_at (L := L.drop (i + 1)) hk hy
          rw [← HD.out, ← HJT.out] at hJ
          have hc := fun W => hullOf_any y x W
          have eho : hullOk y x = validR (hullR y x) := by unfold hullOk; rw [hyv, HXV.out]; rfl
          have ehv : hullV y x = madeR (hullR y x) := by unfold hullV madeR; rw [eho]
          rw [eho, ehv] at hc
          obtain ⟨g, cc4, e1, hgb, _⟩ := own3.out.form (by omega)
          injection e1 with e1 _ e2
          subst e1
          subst e2
          obtain ⟨⟨y0, y1, y2, y3⟩, z0, z1, z2, z3⟩ := row_cells own3.out HN.out hy
          have hgw : g < w3.heap.size := (own3.out.lt g rfl).2
          have hgne : wr.heap.size ≠ g := by have := (HO.out.lt g rfl).2; omega
          have hgne' : g ≠ wr.heap.size := fun e => hgne e.symm
          have HC := hid hc
          have HY := hid hy
          have HYV := hid hyv
          have ii1 : (0 : Int) ≤ (k : Int) := by omega
          have ii2 : (k : Int) < (n : Int) := by omega
          have HJ2 := hid hJ
          clear hq hm hk hy hyv hJ hc eho ehv hgb
          generalize hz : hullR y x = z at *
          cases hv : validR z
          · have HN0 : Aside (joinTo [] L = none) := by show _ = _; rw [HJ2.out, hv]; rfl
            rw [hv] at HC
            have HV := hid hv
            have hmz : madeR z = zeroR := by unfold madeR; rw [hv]; rfl
            rw [hmz] at HC
            unfold zeroR at HC
            simp only at HC
            clear hv hz hmz
            go_wp2_with fail
            go_region_held3 (fun w' => w'.cell? ⟨g, k * 4, none⟩ = some (.int .i64 y.X) ∧ w'.cell? ⟨g, k * 4 + 1, none⟩ = some (.int .i64 y.Y) ∧ w'.cell? ⟨g, k * 4 + 2, none⟩ = some (.int .i64 y.W) ∧ w'.cell? ⟨g, k * 4 + 3, none⟩ = some (.int .i64 y.H) ∧ w'.cell? ⟨wr.heap.size, 0, none⟩ = some (.int .i64 x.X) ∧ w'.cell? ⟨wr.heap.size, 1, none⟩ = some (.int .i64 x.Y) ∧ w'.cell? ⟨wr.heap.size, 2, none⟩ = some (.int .i64 x.W) ∧ w'.cell? ⟨wr.heap.size, 3, none⟩ = some (.int .i64 x.H)) (go_keep)
              (first
                | ((with_reducible refine (HC.out _).mono ?_); rintro e w6 ⟨rfl, hb6⟩; have q0 := (hb6.cell (p := ⟨g, k * 4, none⟩) hgw).trans y0; have q1 := (hb6.cell (p := ⟨g, k * 4 + 1, none⟩) hgw).trans y1; have q2 := (hb6.cell (p := ⟨g, k * 4 + 2, none⟩) hgw).trans y2; have q3 := (hb6.cell (p := ⟨g, k * 4 + 3, none⟩) hgw).trans y3; have p0 := (hb6.cell (p := ⟨wr.heap.size, 0, none⟩) hz3).trans k0; have p1 := (hb6.cell (p := ⟨wr.heap.size, 1, none⟩) hz3).trans k1; have p2 := (hb6.cell (p := ⟨wr.heap.size, 2, none⟩) hz3).trans k2; have p3 := (hb6.cell (p := ⟨wr.heap.size, 3, none⟩) hz3).trans k3; have HB6 := hid (show Below w3.heap.size w3 w6 from below_undrew hb6); have hs6 := HB6.out.size; have ne1 : w6.heap.size ≠ g := Nat.ne_of_gt (Nat.lt_of_lt_of_le hgw hs6); have ne2 : g ≠ w6.heap.size := Nat.ne_of_lt (Nat.lt_of_lt_of_le hgw hs6); have ne3 : w6.heap.size ≠ wr.heap.size := Nat.ne_of_gt (Nat.lt_of_lt_of_le hz3 hs6); have ne4 : wr.heap.size ≠ w6.heap.size := Nat.ne_of_lt (Nat.lt_of_lt_of_le hz3 hs6); clear hb6; dsimp only)
                | ((with_reducible refine (HC.out _).mono ?_); rintro e w6 ⟨rfl, hb6⟩; have q0 := cell_al1 hb6 hgw y0; have q1 := cell_al1 hb6 hgw y1; have q2 := cell_al1 hb6 hgw y2; have q3 := cell_al1 hb6 hgw y3; have p0 := cell_al1 hb6 hz3 k0; have p1 := cell_al1 hb6 hz3 k1; have p2 := cell_al1 hb6 hz3 k2; have p3 := cell_al1 hb6 hz3 k3; obtain ⟨⟨n0, n1, n2, n3⟩, g0, g1, g2, g3⟩ := cells4j (blk_al1 hb6); have HB6 := hid (below_al1 hb6); have ne1 : w3.heap.size ≠ g := Nat.ne_of_gt hgw; have ne2 : g ≠ w3.heap.size := Nat.ne_of_lt hgw; have ne3 : w3.heap.size ≠ wr.heap.size := Nat.ne_of_gt hz3; have ne4 : wr.heap.size ≠ w3.heap.size := Nat.ne_of_lt hz3; clear hb6; dsimp only))
            all_goals
              go_wp2
              go_ret2
              rw [HN0.out]
              first
                | exact GivesB.nil rfl (chain B1.out (B3.out.trans ((HB6.out.alloc HB6.out.size _).mono B3.out.size)))
                | exact GivesB.nil rfl (chain B1.out (B3.out.trans (HB6.out.mono B3.out.size)))
                | exact GivesB.nil rfl (chain B1.out (below4 ((HB6.out.alloc HB6.out.size _).mono B3.out.size) B3.out (Nat.le_refl _) (Nat.le_trans B3.out.size HB6.out.size)))
                | exact GivesB.nil rfl (chain B1.out (below4 (HB6.out.mono B3.out.size) B3.out (Nat.le_refl _) B3.out.size))
          · have HJ3 : Aside (joinTo [] L = joinTo (out.set k z) (L.drop (i + 1))) := by show _ = _; rw [HJ2.out, hv]; rfl
            rw [hv] at HC
            have HV := hid hv
            have hmz : madeR z = z := by unfold madeR; rw [hv]; rfl
            rw [hmz] at HC
            clear hv hz hmz
            have FIN : ∀ (W : World), W.ownsRow w1.heap.size 27 4 (.slice (some ⟨g, 0, none⟩) n c4) n (out.flatMap encRect) → Below w1.heap.size w1 W →
                Aside (JRel w1 L (i + 1) (some ⟨g, 0, none⟩) n c4 (out.set k z) ((((W.setCell ⟨g, k * 4, none⟩ (.int .i64 z.X)).setCell ⟨g, k * 4 + 1, none⟩ (.int .i64 z.Y)).setCell ⟨g, k * 4 + 2, none⟩ (.int .i64 z.W)).setCell ⟨g, k * 4 + 3, none⟩ (.int .i64 z.H))) := fun W ho hb => by
              obtain ⟨r1, r2⟩ := row_setRect ho HY.out z
              exact ⟨by rw [HN.out]; simp, by have := HN.out; simp; omega, valid_set HOV.out HV.out, HJ3.out, r1, hb.grown r2 hb.size (fun q hq => (ho.lt q hq).1)⟩
            have HFIN := hid FIN
            have HQQ : Aside (∀ q, (Value.slice (some ⟨g, 0, none⟩) n c4).ownBlock = some q → q ≠ w3.heap.size) := fun q hq => by
              have hq2 : some g = some q := hq
              injection hq2 with hq2
              omega
            have HAL : Aside (∀ (W : World) (o : Obj), Aside (JRel w1 L (i + 1) (some ⟨g, 0, none⟩) n c4 (out.set k z) W) → Aside (JRel w1 L (i + 1) (some ⟨g, 0, none⟩) n c4 (out.set k z) (W.alloc o))) := fun W o h => h.out.al o
            clear FIN
            go_wp2_with fail
            go_region_held3 (fun w' => w'.cell? ⟨g, k * 4, none⟩ = some (.int .i64 y.X) ∧ w'.cell? ⟨g, k * 4 + 1, none⟩ = some (.int .i64 y.Y) ∧ w'.cell? ⟨g, k * 4 + 2, none⟩ = some (.int .i64 y.W) ∧ w'.cell? ⟨g, k * 4 + 3, none⟩ = some (.int .i64 y.H) ∧ w'.cell? ⟨wr.heap.size, 0, none⟩ = some (.int .i64 x.X) ∧ w'.cell? ⟨wr.heap.size, 1, none⟩ = some (.int .i64 x.Y) ∧ w'.cell? ⟨wr.heap.size, 2, none⟩ = some (.int .i64 x.W) ∧ w'.cell? ⟨wr.heap.size, 3, none⟩ = some (.int .i64 x.H)) (go_keep)
              (first
                | ((with_reducible refine (HC.out _).mono ?_); rintro e w6 ⟨rfl, hb6⟩; have q0 := (hb6.cell (p := ⟨g, k * 4, none⟩) hgw).trans y0; have q1 := (hb6.cell (p := ⟨g, k * 4 + 1, none⟩) hgw).trans y1; have q2 := (hb6.cell (p := ⟨g, k * 4 + 2, none⟩) hgw).trans y2; have q3 := (hb6.cell (p := ⟨g, k * 4 + 3, none⟩) hgw).trans y3; have p0 := (hb6.cell (p := ⟨wr.heap.size, 0, none⟩) hz3).trans k0; have p1 := (hb6.cell (p := ⟨wr.heap.size, 1, none⟩) hz3).trans k1; have p2 := (hb6.cell (p := ⟨wr.heap.size, 2, none⟩) hz3).trans k2; have p3 := (hb6.cell (p := ⟨wr.heap.size, 3, none⟩) hz3).trans k3; have HB6 := hid (show Below w3.heap.size w3 w6 from below_undrew hb6); have ROW6 := hid (row_next own3.out HB6.out); have z60 := ROW6.out.frozenAt (k * 4); have z61 := ROW6.out.frozenAt (k * 4 + 1); have z62 := ROW6.out.frozenAt (k * 4 + 2); have z63 := ROW6.out.frozenAt (k * 4 + 3); have hgw6 : g < w6.heap.size := Nat.lt_of_lt_of_le hgw HB6.out.size; have hzw6 : wr.heap.size < w6.heap.size := Nat.lt_of_lt_of_le hz3 HB6.out.size; have hs6 := HB6.out.size; have ne1 : w6.heap.size ≠ g := Nat.ne_of_gt (Nat.lt_of_lt_of_le hgw hs6); have ne2 : g ≠ w6.heap.size := Nat.ne_of_lt (Nat.lt_of_lt_of_le hgw hs6); have ne3 : w6.heap.size ≠ wr.heap.size := Nat.ne_of_gt (Nat.lt_of_lt_of_le hz3 hs6); have ne4 : wr.heap.size ≠ w6.heap.size := Nat.ne_of_lt (Nat.lt_of_lt_of_le hz3 hs6); clear hb6; dsimp only)
                | ((with_reducible refine (HC.out _).mono ?_); rintro e w6 ⟨rfl, hb6⟩; have q0 := cell_al1 hb6 hgw y0; have q1 := cell_al1 hb6 hgw y1; have q2 := cell_al1 hb6 hgw y2; have q3 := cell_al1 hb6 hgw y3; have p0 := cell_al1 hb6 hz3 k0; have p1 := cell_al1 hb6 hz3 k1; have p2 := cell_al1 hb6 hz3 k2; have p3 := cell_al1 hb6 hz3 k3; obtain ⟨⟨n0, n1, n2, n3⟩, g0, g1, g2, g3⟩ := cells4j (blk_al1 hb6); have HB6 := hid (below_al1 hb6); have ROW6 := hid (row_next own3.out HB6.out); have z60 := ROW6.out.frozenAt (k * 4); have z61 := ROW6.out.frozenAt (k * 4 + 1); have z62 := ROW6.out.frozenAt (k * 4 + 2); have z63 := ROW6.out.frozenAt (k * 4 + 3); have hgw6 : g < w6.heap.size := Nat.lt_of_lt_of_le hgw HB6.out.size; have hzw6 : wr.heap.size < w6.heap.size := Nat.lt_of_lt_of_le hz3 HB6.out.size; have ne1 : w3.heap.size ≠ g := Nat.ne_of_gt hgw; have ne2 : g ≠ w3.heap.size := Nat.ne_of_lt hgw; have ne3 : w3.heap.size ≠ wr.heap.size := Nat.ne_of_gt hz3; have ne4 : wr.heap.size ≠ w3.heap.size := Nat.ne_of_lt hz3; clear hb6; dsimp only))
            all_goals
              go_wp2
              go_roundg (L.length - (i + 1))
              case measure => omega
              case rel =>
                refine ⟨i + 1, n, c4, _, out.set k z, by omega, by omega, rfl, by go_num, ?_⟩
                first
                  | with_reducible exact HAL.out _ _ (HFIN.out _ ROW6.out (B3.out.trans (HB6.out.mono B3.out.size)))
                  | with_reducible exact HFIN.out _ (row_set4 ROW6.out HQQ.out) (below4 (HB6.out.mono B3.out.size) B3.out (Nat.le_refl _) B3.out.size)
      · have hil : i = L.length := by omega
        have hJE : joinTo [] L = some out := by rw [HJT.out, hil, List.drop_length]; rfl
        have HJE := hid hJE
        obtain ⟨hic1, hic2⟩ := slice_le HO.out
        have hcl := clipRect_any A4 n c4 wr hic1
        have HCL := hid hcl
        clear hJE hcl
        go_wp2_with fail
        refine HCL.out.mono ?_
        rintro e w5 ⟨rfl, rfl⟩
        go_wp2
        go_ret2
        rw [HJE.out]
        show GivesB 4 encRect out true w _ _
        have hn := HN.out
        refine ⟨A4, n, by rw [← hn]; rfl, by rw [← hn]; exact Nat.le_refl _, by omega, ?_, chain B1.out HB.out⟩
        exact (OwnA.of_rowN (enc := encRect) (k := 4) (fun _ => rfl) hn rfl HO.out).less B1.out.size
end Go.Proofs.Ythejkmdodjchiaa
