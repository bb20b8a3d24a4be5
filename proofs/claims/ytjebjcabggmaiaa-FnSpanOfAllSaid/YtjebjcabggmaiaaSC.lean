/- The sizes of tracks: spec.tracks. -/
import Derived.Test.YtjebjcabggmaiaaSA
namespace Go.Proofs.Ytjebjcabggmaiaa
set_option linter.unusedVariables false
set_option linter.unusedSimpArgs false
open Go.RowKit Go.Lib

theorem arr_cellI {W : World} {g B : Nat} {x : Int} {t : TypeId} (h : W.heap[g]? = some (.cells #[.int .i64 x] t (0, 0))) (hB : g < B) : Arr W B 1 encI (some ⟨g, 0, none⟩) [x] := fun _ => by
  refine ⟨g, 0, rfl, hB, fun i y hy j v hv => ?_⟩
  cases i with
  | zero =>
    simp at hy
    subst hy
    rw [cell_of_row W g _ _ _ _ h]
    simpa [encI] using hv
  | succ i => simp at hy
/-- The loops' relations: out is empty while the parts come; then it is filled. -/
def Sp1 (w : World) (P : List Int) (i : Nat) (A7 : Option Addr) (A8 : Option Addr) (c8 : Nat) (wr : World) : Prop :=
  wr.ownsRow w.heap.size 3 1 (.slice A7 0 0) 0 [] ∧ wr.ownsRow w.heap.size 3 1 (.slice A8 i c8) i ((P.take i).flatMap encI) ∧
    (∀ g g', (Value.slice A7 0 0).ownBlock = some g → (Value.slice A8 i c8).ownBlock = some g' → g ≠ g') ∧ Below w.heap.size w wr
theorem sp1_start {w : World} {P : List Int} : Sp1 w P 0 (some ⟨w.heap.size, 0, none⟩) (some ⟨w.heap.size + 1, 0, none⟩) 0 ((w.alloc (.cells #[] 3)).alloc (.cells #[] 3)) := by
  have h1 := (World.ownsRow_made (e := 3) (size := 1) (base := w.heap.size) w #[] 0 (Nat.le_refl _) (by simp [maxLen]) rfl).alloc (.cells #[] 3)
  have h2 := World.ownsRow_made (e := 3) (size := 1) (base := w.heap.size) (w.alloc (.cells #[] 3)) #[] 0 (by simp) (by simp [maxLen]) rfl
  have e : (w.alloc (.cells #[] 3)).heap.size = w.heap.size + 1 := by simp
  rw [e] at h2
  refine ⟨h1, h2, ?_, ((Below.refl _ _).alloc (Nat.le_refl _) _).alloc (by simp) _⟩
  intro g g' h h'
  simp [Value.ownBlock] at h h'
  omega
theorem sp1_push {w wr w7 : World} {P : List Int} {i : Nat} {A4 : Option Addr} {A5 : Option Addr} {c5 : Nat} {A7 : Option Addr} {c7 : Nat} {x : Int} (R : Sp1 w P i A4 A5 c5 wr) (hx : P[i]? = some x)
    (own7 : w7.ownsRow w.heap.size 3 1 (.slice A7 (i + 1) c7) (i + 1) ((P.take i).flatMap encI ++ (#[Value.int .i64 x]).toList)) (gr7 : wr.grownBy w7 (Value.slice A5 i c5).ownBlock)
    (at7 : ∀ q, (Value.slice A7 (i + 1) c7).ownBlock = some q → (Value.slice A5 i c5).ownBlock = some q ∨ wr.heap.size ≤ q) : Sp1 w P (i + 1) A4 A7 c7 w7 := by
  obtain ⟨h1, h2, h3, h4⟩ := R
  refine ⟨rowI_other h1 gr7 h3, ?_, fun g g' hg hg' => (pushI_apart (v := .slice A5 i c5) h1 at7 (fun g g' h h' => (h3 g' g h' h).symm) g' g hg' hg).symm, h4.grown gr7 h4.size (fun g hg => (h2.lt g hg).1)⟩
  rw [take_next hx, List.flatMap_append]
  exact own7
def Sp2 (w wo w2 : World) (T M : List Int) (k : Nat) (A7 : Option Addr) (c7 : Nat) (A9 : Option Addr) (wr : World) : Prop :=
  wr.ownsRow w.heap.size 3 1 (.slice A7 k c7) k ((T.take k).flatMap encI) ∧ OwnA wr wo.heap.size 1 encI A9 M ∧ (∀ g, (Value.slice A7 k c7).ownBlock = some g → g < wo.heap.size ∨ w2.heap.size ≤ g) ∧
    (∀ a, A9 = some a → a.block < w2.heap.size) ∧ w2.heap.size ≤ wr.heap.size ∧ Below w.heap.size w wr
theorem sp2_push {w wo w2 wr w7 : World} {T M : List Int} {k : Nat} {A7 : Option Addr} {c7 : Nat} {A9 : Option Addr} {x : Int} {A8 : Option Addr} {c8 : Nat} (R : Sp2 w wo w2 T M k A7 c7 A9 wr) (hM : 0 < M.length) (hx : T[k]? = some x)
    (own7 : w7.ownsRow w.heap.size 3 1 (.slice A8 (k + 1) c8) (k + 1) ((T.take k).flatMap encI ++ [x].flatMap encI)) (gr7 : wr.grownBy w7 (Value.slice A7 k c7).ownBlock)
    (at7 : ∀ q, (Value.slice A8 (k + 1) c8).ownBlock = some q → (Value.slice A7 k c7).ownBlock = some q ∨ wr.heap.size ≤ q) : Sp2 w wo w2 T M (k + 1) A8 c8 A9 w7 := by
  obtain ⟨h1, h2, h3, h4, h5, h6⟩ := R
  refine ⟨?_, h2.far (hi := w2.heap.size) (fun _ a e => h4 a e) gr7 (fun g hg => h3 g hg), fun g hg => ?_, h4, Nat.le_trans h5 gr7.size, h6.grown gr7 h6.size (fun g hg => (h1.lt g hg).1)⟩
  · rw [take_next hx, List.flatMap_append]
    exact own7
  · rcases at7 g hg with h | h
    · exact h3 g h
    · exact .inr (Nat.le_trans h5 h)
theorem Sp2.alloc {w wo w2 wr : World} {T M : List Int} {k : Nat} {A7 : Option Addr} {c7 : Nat} {A9 : Option Addr} (R : Sp2 w wo w2 T M k A7 c7 A9 wr) (o : Obj) : Sp2 w wo w2 T M k A7 c7 A9 (wr.alloc o) := by
  obtain ⟨h1, h2, h3, h4, h5, h6⟩ := R
  exact ⟨h1.alloc _, h2.apart (World.grownBy_alloc wr o none) (fun g e => by cases e), h3, h4, Nat.le_trans h5 (by simp), h6.alloc h6.size _⟩
theorem Sp2.drew {w wo w2 wr : World} {T M : List Int} {k : Nat} {A7 : Option Addr} {c7 : Nat} {A9 : Option Addr} (R : Sp2 w wo w2 T M k A7 c7 A9 wr) : Sp2 w wo w2 T M k A7 c7 A9 wr.drew := by
  obtain ⟨h1, h2, h3, h4, h5, h6⟩ := R
  exact ⟨h1.drew, h2, h3, h4, h5, h6.drew⟩

theorem cell_keepA {wr w8 : World} {o : Obj} {row : Option Nat} {p : Addr} {v : Value} (h : wr.cell? p = some v) (hp : p.block < wr.heap.size) (gr : (wr.drew.alloc o).grownBy w8 row) (hne : some p.block ≠ row) : w8.cell? p = some v := by
  have h1 : (wr.drew.alloc o).cell? p = wr.cell? p := World.cell?_alloc_lt wr.drew _ p hp
  exact (World.cell?_of_block (gr.block p.block (Nat.lt_of_lt_of_le hp (by simp)) hne)).trans (h1.trans h)

set_option maxHeartbeats 4000000 in
theorem specTracks_any (sp gap : Int) (A : Option Addr) (L : List TrackD) (c : Nat) (w : World) (hv : vTs L = true) (hsp : 0 ≤ sp ∧ sp ≤ 200000) (hg : 0 ≤ gap ∧ gap ≤ 50) (h : Arr w w.heap.size 2 encTrack A L) :
    Calls Try.prog 20 #[.slice A L.length c, .int .i64 sp, .int .i64 gap] w (Gives 1 encI (trackM L sp gap) w) := by
  have h8 := (vTs_iff.1 hv).1
  obtain ⟨h81, h82⟩ := h8
  have H := hid h
  have hsh := fun A c W (hW : Arr W W.heap.size 1 encI A (partsT L)) => shareS_any (leftT L sp gap) A (partsT L) c W (leftT_bd hv hsp hg) (by rw [partsT_len]; omega) (by rw [partsT_len]; omega) (small_partsT hv) hW
  simp only [partsT_len] at hsh
  have HM := hid (moreT_small hv hsp hg)
  have HS := hid (sizesT_small hv)
  have SUM := hid (sum_sizes hv)
  have SNX := hid (fun i x (hx : (sizesT L)[i]? = some x) => sum_take_next hx)
  obtain ⟨sp1, sp2⟩ := hsp
  obtain ⟨g1, g2⟩ := hg
  have hgm := mul_bd ⟨g1, g2⟩ (show 0 ≤ (L.length : Int) - 1 ∧ (L.length : Int) - 1 ≤ 7 by omega)
  obtain ⟨gm1, gm2⟩ := hgm
  have hle : max 0 (sp - gap * ((L.length : Int) - 1) - ((sizesT L).take L.length).sum) = leftT L sp gap := by
    rw [← sizesT_len, List.take_length, sizesT_len]
    unfold leftT
    omega
  have PL := hid (show (sizesT L).length = L.length ∧ (partsT L).length = L.length from ⟨sizesT_len L, partsT_len L⟩)
  have ML := hid (moreT_len L sp gap)
  have TM : Aside (trackM L sp gap = addTo (sizesT L) (moreT L sp gap) L.length) := rfl
  have TL := hid (trackM_len L sp gap)
  rw [← show moreT L sp gap = shareM (leftT L sp gap) (partsT L) from rfl] at hsh
  have HSH := hid hsh
  have R0 := hid (sp1_start (w := w) (P := partsT L))
  generalize leftT L sp gap = le at *
  have HLE := hid hle
  clear h hv hsh hle
  generalize moreT L sp gap = M at *
  generalize trackM L sp gap = TK at *
  generalize hGM : gap * ((L.length : Int) - 1) = gm at *
  have HGM := hid hGM
  have m1 : IntKind.i64.wrap (gap * ((L.length : Int) - 1)) = gm := by rw [hGM]; exact IntWalk.i64_in _ (by omega)
  clear hGM
  go_enter Try.func20, Try.ntmps20
  go_wp2
  go_loopg [8, 9, 10] L.length (fun gg s8 s9 s10 wr => ∃ (i c8 : Nat) (A8 : Option Addr) (l : Int), i ≤ L.length ∧ L.length - i ≤ gg ∧ s8 = .slice A8 i c8 ∧ s9 = .int .i64 l ∧ s10 = .int .i64 i ∧ (-100000 ≤ l ∧ l ≤ 200000) ∧ Aside (l = sp - gm - ((sizesT L).take i).sum) ∧ Aside (Sp1 w (partsT L) i (some ⟨w.heap.size, 0, none⟩) A8 c8 wr))
  case atStart => exact ⟨0, 0, _, sp - gm, Nat.zero_le _, by omega, rfl, rfl, rfl, ⟨by omega, by omega⟩, (show _ = _ by simp), R0.out⟩
  case round =>
    obtain ⟨i, c8, A8, l, hi, hgg, rfl, rfl, rfl, ⟨l1, l2⟩, E, R⟩ := hrel
    by_cases hlt : i < L.length
    · obtain ⟨b, off, x, rfl, hb, hx, d1, d2⟩ := (H.out.below R.out.2.2.2).atTrack hlt
      have HX2 := hid (partsT_at hx)
      obtain ⟨x1, x2⟩ := HS.out x.Size (List.mem_of_getElem? (sizesT_at hx))
      have hnx := SNX.out i _ (sizesT_at hx)
      have hsu := SUM.out (i + 1)
      rw [hnx] at hsu
      have hl := E.out
      obtain ⟨su1, su2⟩ := hsu
      have hl3 : -100000 ≤ l - x.Size ∧ l - x.Size ≤ 200000 := by omega
      have E2 : Aside (l - x.Size = sp - gm - ((sizesT L).take (i + 1)).sum) := by show _ = _; rw [hnx]; omega
      obtain ⟨l3, l4⟩ := hl3
      have HWZ := hid (R.out.2.2.2.size)
      clear hx hnx hl su1 su2 E
      go_wp2_with (at_builtin; refine wpList_push eltIntS rfl (.tmp 35) (.tmp 41) rfl w.heap.size _ i _ R.out.2.1 (by omega) HWZ.out _ _ rfl rfl rfl rfl (fun q hq => oc1 _ q hq) ?_; intro A9 c9 w9 own9 gr9 at9; have R9 := hid (sp1_push R.out HX2.out own9 gr9 at9); clear own9 gr9 at9)
      go_roundg (L.length - (i + 1))
      case measure => omega
      case rel => exact ⟨i + 1, c9, A9, l - x.Size, by omega, by omega, rfl, rfl, by go_num, ⟨l3, l4⟩, E2, R9.out⟩
    · obtain rfl : i = L.length := by omega
      obtain ⟨wo, hwo⟩ : ∃ wo : World, wo = wr := ⟨_, rfl⟩
      subst hwo
      obtain ⟨o4, o5, ap, bb⟩ := R.out
      rw [List.take_of_length_le (by rw [PL.out.2]; exact Nat.le_refl _)] at o5
      have A5O := OwnA.of_rowN (enc := encI) (k := 1) (fun _ => rfl) PL.out.2.symm rfl o5
      have sha := HSH.out A8 c8 wo A5O.arr
      have hml : max 0 l = le := by rw [E.out]; exact HLE.out
      have HML := hid hml
      have O4 := hid o4
      have BB := hid bb
      clear R R0 o4 o5 ap bb A5O hml E
      go_wp2_with fail
      rw [HML.out]
      refine sha.mono ?_
      rintro e w2 ⟨A9, c9, he, -, -, o9, b9⟩
      rw [ML.out] at he
      subst he
      have ZB : Aside (Sp2 w wo w2 (addTo (sizesT L) M L.length) M 0 (some ⟨w.heap.size, 0, none⟩) 0 A9 w2) :=
        ⟨by simpa using row_next O4.out b9, o9, fun g hg => by
          have := (O4.out.lt g hg).2
          exact .inl this, fun a e => o9.lt (by rw [ML.out]; omega) a e, Nat.le_refl _, chain BB.out b9⟩
      clear sha o9 b9 O4 m1
      go_wp2
      go_loopg [7, 12] L.length (fun gg s7 s12 wr => ∃ (k c7 : Nat) (A7 : Option Addr), k ≤ L.length ∧ L.length - k ≤ gg ∧ s7 = .slice A7 k c7 ∧ s12 = .int .i64 k ∧ Aside (Sp2 w wo w2 (addTo (sizesT L) M L.length) M k A7 c7 A9 wr))
      case atStart => exact ⟨0, 0, _, Nat.zero_le _, by omega, rfl, rfl, ZB⟩
      case round =>
        obtain ⟨k, c7, A7, hk, hgg, rfl, rfl, R⟩ := hrel
        by_cases hlt : k < L.length
        · obtain ⟨b, off, t, rfl, hb, hxt, d1, d2⟩ := (H.out.below R.out.2.2.2.2.2).atTrack hlt
          have hx := sizesT_at hxt
          have hy := List.getElem?_eq_getElem (l := M) (i := k) (by rw [ML.out]; exact hlt)
          have bx := HS.out _ (List.mem_of_getElem? hx)
          have byy := HM.out _ (List.mem_of_getElem? hy)
          generalize M[k]'(by rw [ML.out]; exact hlt) = y at hy byy
          obtain ⟨n1, n2, n3⟩ := addTo_next hx hy
          have n4 : (addTo (sizesT L) M L.length)[k]? = some (t.Size + y) := by rw [addTo_mono (k := k + 1) hlt (by omega)]; exact n3
          obtain ⟨g9, f9, rfl, hb9, hz9, hc9, -⟩ := R.out.2.1.at_ hy
          have d3 : wr.cell? ⟨g9, f9 + k, none⟩ = some (.int .i64 y) := by simpa using hc9 0 _ rfl
          obtain ⟨bx1, bx2⟩ := bx
          obtain ⟨by1, by2⟩ := byy
          have k1 : (0 : Int) ≤ (k : Int) := by omega
          have k2 : (k : Int) < (L.length : Int) := by omega
          have s1 : IntKind.i64.wrap (t.Size + y) = t.Size + y := IntWalk.i64_in _ (by omega)
          have N4 := hid n4
          have hb2 : b < wr.heap.size := Nat.lt_of_lt_of_le hb R.out.2.2.2.2.2.size
          have NE9 := hid (show some g9 = (Value.slice A7 k c7).ownBlock → False from fun e => by
            have h1 := R.out.2.2.1 g9 e.symm
            have h2 := R.out.2.2.2.1 _ rfl
            simp at h2
            omega)
          have hML : 0 < M.length := by rw [ML.out]; omega
          have HML2 := hid hML
          clear hxt hx hy n1 n2 n3 n4 hc9 ZB hML d2
          go_wp2_with fail
          go_region_held3 (fun w' => w'.cell? ⟨b, off + k * 2, none⟩ = some (.int .i64 t.Size) ∧ w'.cell? ⟨g9, f9 + k, none⟩ = some (.int .i64 y)) (first | go_keep | exact ⟨q1, q2⟩ | exact And.intro q1 q2)
            ((refine step_append_arr _ eltIntS (by rfl) (.tmp 53) (.tmp 64) (by rfl) w.heap.size _ k (k + 1) _ (by rfl) (R.out.drew.alloc _).1 encI (fun _ => rfl) oneI _ _ [t.Size + y] 1 1 (by rfl) (by rfl) (arr_cellI (heap_alloc_new _ _) (Nat.lt_succ_self _)) (by omega) (by omega) (R.out.drew.alloc _).2.2.2.2.2.size ?_; intro A8 c8 w8 own8 gr8 at8; have q1 := cell_keepA d1 hb2 gr8 (fun e => by have := (R.out.1.lt _ e.symm).1; have := hb; simp at *; omega); have q2 := cell_keepA d3 hz9 gr8 (fun e => NE9.out e); have R8 := hid (sp2_push (R.out.drew.alloc _) HML2.out N4.out own8 gr8 at8); clear own8 gr8 at8))
          go_wp2
          go_roundg (L.length - (k + 1))
          case measure => omega
          case rel => exact ⟨k + 1, c8, A8, by omega, by omega, rfl, by go_num, R8.out⟩
        · obtain rfl : k = L.length := by omega
          have hle7 := slice_le R.out.1
          have E := hid R.out
          clear R ZB
          go_wp2
          go_ret
          refine gives_n TL.out.symm hle7.1 hle7.2 ?_ E.out.2.2.2.2.2
          rw [TM.out]
          have := E.out.1
          rw [List.take_of_length_le (by rw [addTo_len, PL.out.1]; exact Nat.le_refl _)] at this
          exact OwnA.of_rowN (enc := encI) (k := 1) (fun _ => rfl) (by rw [addTo_len, PL.out.1]) rfl this
end Go.Proofs.Ytjebjcabggmaiaa
