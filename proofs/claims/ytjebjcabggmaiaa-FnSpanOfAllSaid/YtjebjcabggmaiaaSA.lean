/- The sizes of tracks: impl.tracks. -/
import Derived.Test.YtjebjcabggmaiaaS8
namespace Go.Proofs.Ytjebjcabggmaiaa
set_option linter.unusedVariables false
set_option linter.unusedSimpArgs false
open Go.RowKit Go.Lib

/-- The cells that make lays for n numbers. -/
def zerosT (n : Nat) : Array Value := madeCells (Value.int .i64 0).cells n
theorem run_zerosT (n : Nat) (hn : n ≤ 1000) (W : World) : (Instr.makeSlice 24 (.int .i64 0) (.int .i64 (n : Int))).run Try.prog W = .ok (.slice (some ⟨W.heap.size, 0, none⟩) 0 n) (W.alloc (.cells (zerosT n) 3)) := by
  obtain ⟨i, hi, hz, hs, hb⟩ := info_parts (P := Try.prog) (e := 3) (z := .int .i64 0) (size := 1) (bytes := 8) (by kernel_rfl)
  have h := run_make (P := Try.prog) W 24 3 i (.int .i64 0) Try.underlying24 hi hz .i64 .i64 0 n (by omega) (by omega) (by rw [hb]; omega) (by omega)
  rw [hs] at h
  simpa [zerosT] using h
theorem own_zerosT (n : Nat) (hn : n ≤ 1000) (W : World) : (W.alloc (.cells (zerosT n) 3)).ownsRow W.heap.size 3 1 (.slice (some ⟨W.heap.size, 0, none⟩) 0 n) 0 [] :=
  World.ownsRow_made W (zerosT n) n (Nat.le_refl _) (by simp only [maxLen]; omega) (by unfold zerosT; rw [size_madeCells]; omega)

/-- The first loop's relation: j and i numbers in two rows. -/
def TrH (w : World) (S P : List Int) (j i : Nat) (A4 : Option Addr) (c4 : Nat) (A5 : Option Addr) (c5 : Nat) (wr : World) : Prop :=
  wr.ownsRow w.heap.size 3 1 (.slice A4 j c4) j ((S.take j).flatMap encI) ∧ wr.ownsRow w.heap.size 3 1 (.slice A5 i c5) i ((P.take i).flatMap encI) ∧
    (∀ g g', (Value.slice A4 j c4).ownBlock = some g → (Value.slice A5 i c5).ownBlock = some g' → g ≠ g') ∧ Below w.heap.size w wr
theorem trH_alloc {w wr : World} {S P : List Int} {j i : Nat} {A4 : Option Addr} {c4 : Nat} {A5 : Option Addr} {c5 : Nat} (h : TrH w S P j i A4 c4 A5 c5 wr) (o : Obj) : TrH w S P j i A4 c4 A5 c5 (wr.alloc o) :=
  ⟨h.1.alloc _, h.2.1.alloc _, h.2.2.1, h.2.2.2.alloc h.2.2.2.size _⟩
theorem tr_push1 {w wr w7 : World} {S P : List Int} {j i : Nat} {A4 : Option Addr} {c4 : Nat} {A5 : Option Addr} {c5 : Nat} {A7 : Option Addr} {c7 : Nat} {x : Int} (R : TrH w S P j i A4 c4 A5 c5 wr) (hx : S[j]? = some x)
    (own7 : w7.ownsRow w.heap.size 3 1 (.slice A7 (j + 1) c7) (j + 1) ((S.take j).flatMap encI ++ (#[Value.int .i64 x]).toList)) (gr7 : wr.grownBy w7 (Value.slice A4 j c4).ownBlock)
    (at7 : ∀ q, (Value.slice A7 (j + 1) c7).ownBlock = some q → (Value.slice A4 j c4).ownBlock = some q ∨ wr.heap.size ≤ q) : TrH w S P (j + 1) i A7 c7 A5 c5 w7 := by
  obtain ⟨h1, h2, h3, h4⟩ := R
  refine ⟨?_, rowI_other h2 gr7 (fun g g' h h' => (h3 g' g h' h).symm), pushI_apart h2 at7 h3, h4.grown gr7 h4.size (fun g hg => (h1.lt g hg).1)⟩
  rw [take_next hx, List.flatMap_append]
  exact own7
theorem tr_push2 {w wr w7 : World} {S P : List Int} {j i : Nat} {A4 : Option Addr} {c4 : Nat} {A5 : Option Addr} {c5 : Nat} {A7 : Option Addr} {c7 : Nat} {x : Int} (R : TrH w S P j i A4 c4 A5 c5 wr) (hx : P[i]? = some x)
    (own7 : w7.ownsRow w.heap.size 3 1 (.slice A7 (i + 1) c7) (i + 1) ((P.take i).flatMap encI ++ (#[Value.int .i64 x]).toList)) (gr7 : wr.grownBy w7 (Value.slice A5 i c5).ownBlock)
    (at7 : ∀ q, (Value.slice A7 (i + 1) c7).ownBlock = some q → (Value.slice A5 i c5).ownBlock = some q ∨ wr.heap.size ≤ q) : TrH w S P j (i + 1) A4 c4 A7 c7 w7 := by
  obtain ⟨h1, h2, h3, h4⟩ := R
  refine ⟨rowI_other h1 gr7 h3, ?_, fun g g' hg hg' => (pushI_apart (v := .slice A5 i c5) h1 at7 (fun g g' h h' => (h3 g' g h' h).symm) g' g hg' hg).symm, h4.grown gr7 h4.size (fun g hg => (h2.lt g hg).1)⟩
  rw [take_next hx, List.flatMap_append]
  exact own7
/-- A new block is kept by a push to a row that is elder. -/
theorem new_kept {wr w7 : World} {v : Value} {base : Nat} {e : TypeId} {size n : Nat} {xs : List Value} {o : Obj} (h : wr.ownsRow base e size v n xs) (gr7 : (wr.alloc o).grownBy w7 v.ownBlock) : w7.heap[wr.heap.size]? = some o :=
  (gr7.block wr.heap.size (by simp) (fun e => by have := (h.lt _ e.symm).2; omega)).trans (heap_alloc_new wr o)

theorem trH_start {w : World} {S P : List Int} {n : Nat} (hn : n ≤ 1000) :
    TrH w S P 0 0 (some ⟨w.heap.size, 0, none⟩) n (some ⟨w.heap.size + 1, 0, none⟩) n ((w.alloc (.cells (zerosT n) 3)).alloc (.cells (zerosT n) 3)).drew ∧
      TrH w S P 0 0 (some ⟨w.heap.size + 1, 0, none⟩) n (some ⟨w.heap.size, 0, none⟩) n ((w.alloc (.cells (zerosT n) 3)).alloc (.cells (zerosT n) 3)).drew := by
  have h1 := ((own_zerosT n hn w).alloc (.cells (zerosT n) 3)).drew
  have h2 := (World.ownsRow_made (e := 3) (size := 1) (base := w.heap.size) (w.alloc (.cells (zerosT n) 3)) (zerosT n) n (by simp) (by simp only [maxLen]; omega) (by unfold zerosT; rw [size_madeCells]; omega)).drew
  have e : (w.alloc (.cells (zerosT n) 3)).heap.size = w.heap.size + 1 := by simp
  rw [e] at h2
  have hb : Below w.heap.size w ((w.alloc (.cells (zerosT n) 3)).alloc (.cells (zerosT n) 3)).drew := (((Below.refl _ _).alloc (Nat.le_refl _) _).alloc (by simp) _).drew
  refine ⟨⟨h1, h2, ?_, hb⟩, ⟨h2, h1, ?_, hb⟩⟩
  all_goals
    intro g g' h h'
    simp [Value.ownBlock] at h h'
    omega

/-- The last loop's relation. -/
def Tr2 (w w3 : World) (S M : List Int) (k : Nat) (A4 A9 : Option Addr) (wr : World) : Prop :=
  OwnA wr w.heap.size 1 encI A4 (addTo S M k) ∧ OwnA wr w3.heap.size 1 encI A9 M ∧ (∀ a, A4 = some a → a.block < w3.heap.size) ∧ Below w.heap.size w wr

set_option maxHeartbeats 4000000 in
theorem tracks_any (sp gap : Int) (A : Option Addr) (L : List TrackD) (c : Nat) (w : World) (hv : vTs L = true) (hsp : 0 ≤ sp ∧ sp ≤ 200000) (hg : 0 ≤ gap ∧ gap ≤ 50) (h : Arr w w.heap.size 2 encTrack A L) :
    Calls Try.prog 23 #[.slice A L.length c, .int .i64 sp, .int .i64 gap] w (Gives 1 encI (trackM L sp gap) w) := by
  have h8 := (vTs_iff.1 hv).1
  obtain ⟨h81, h82⟩ := h8
  have H := hid h
  have HT := hid (fun A c W (hW : Arr W W.heap.size 1 encI A (sizesT L)) => total_any A (sizesT L) L.length c W (sizesT_len L).symm (by rw [sizesT_len]; omega) (small_sizesT hv) hW)
  have hsh := fun A c W (hW : Arr W W.heap.size 1 encI A (partsT L)) => share_any (leftT L sp gap) A (partsT L) c W (leftT_bd hv hsp hg) (by rw [partsT_len]; omega) (by rw [partsT_len]; omega) (small_partsT hv) hW
  simp only [partsT_len] at hsh
  have HM := hid (moreT_small hv hsp hg)
  have HS := hid (sizesT_small hv)
  have hsb := sum_sizes hv L.length
  rw [← sizesT_len, List.take_length] at hsb
  obtain ⟨sb1, sb2⟩ := hsb
  obtain ⟨sp1, sp2⟩ := hsp
  obtain ⟨g1, g2⟩ := hg
  have hgm := mul_bd ⟨g1, g2⟩ (show 0 ≤ (L.length : Int) - 1 ∧ (L.length : Int) - 1 ≤ 7 by omega)
  obtain ⟨gm1, gm2⟩ := hgm
  have hle : max (sp - (sizesT L).sum - gap * ((L.length : Int) - 1)) 0 = leftT L sp gap := rfl
  have hlb := leftT_bd hv ⟨sp1, sp2⟩ ⟨g1, g2⟩
  obtain ⟨lb1, lb2⟩ := hlb
  have MOR : Aside (moreT L sp gap = shareM (leftT L sp gap) (partsT L)) := rfl
  have ML := hid (moreT_len L sp gap)
  have TM : Aside (trackM L sp gap = addTo (sizesT L) (moreT L sp gap) L.length) := rfl
  have TL := hid (trackM_len L sp gap)
  have hmk := run_zerosT L.length (by omega)
  have OZ := hid (own_zerosT L.length (by omega))
  rw [← show moreT L sp gap = shareM (leftT L sp gap) (partsT L) from rfl] at hsh
  have HSH := hid hsh
  generalize leftT L sp gap = le at *
  have HLE := hid hle
  clear h hv hsh hle MOR
  generalize moreT L sp gap = M at *
  generalize trackM L sp gap = TK at *
  generalize (sizesT L).sum = S at *
  have R0 := hid (trH_start (w := w) (S := sizesT L) (P := partsT L) (n := L.length) (by omega))
  have PL := hid (show (sizesT L).length = L.length ∧ (partsT L).length = L.length from ⟨sizesT_len L, partsT_len L⟩)
  go_enter Try.func23, Try.ntmps23
  go_wp2_with fail
  go_region
  all_goals
    clear hmk
    go_wp2
    go_loopg [7, 8, 10, 22] L.length (fun gg s7 s8 _ s22 wr => ∃ (i c4 c5 : Nat) (A4 A5 : Option Addr), i ≤ L.length ∧ L.length - i ≤ gg ∧ s7 = .slice A4 i c4 ∧ s8 = .slice A5 i c5 ∧ s22 = .int .i64 i ∧ Aside (TrH w (sizesT L) (partsT L) i i A4 c4 A5 c5 wr))
    case atStart => first | exact ⟨0, _, _, _, _, Nat.zero_le _, by omega, rfl, rfl, rfl, R0.out.1⟩ | exact ⟨0, _, _, _, _, Nat.zero_le _, by omega, rfl, rfl, rfl, R0.out.2⟩
    case round =>
      obtain ⟨i, c4, c5, A4, A5, hi, hgg, rfl, rfl, rfl, R⟩ := hrel
      by_cases hlt : i < L.length
      · obtain ⟨b, off, x, rfl, hb, hx, d1, d2⟩ := (H.out.below R.out.2.2.2).atTrack hlt
        have HX1 := hid (sizesT_at hx)
        have HX2 := hid (partsT_at hx)
        have R1 := hid (trH_alloc R.out (.cells #[.int .i64 x.Size, .int .i64 x.Part] 43))
        have hwz : w.heap.size ≤ (wr.alloc (.cells #[.int .i64 x.Size, .int .i64 x.Part] 43)).heap.size := R1.out.2.2.2.size
        have HWZ := hid hwz
        clear hx hwz
        go_wp2_with (first
          | (at_builtin; refine wpList_push eltIntS rfl (.tmp 26) (.tmp 29) rfl w.heap.size _ i _ R1.out.1 (by omega) HWZ.out _ _ rfl rfl (by simp) rfl (fun q hq => oc1 _ q hq) ?_; intro A7 c7 w7 own7 gr7 at7; have nb := new_kept R.out.1 gr7; have k1 : w7.cell? ⟨wr.heap.size, 1, none⟩ = some (.int .i64 x.Part) := (by rw [cell_of_row _ _ _ _ _ _ nb]; rfl); have R7 := hid (tr_push1 R1.out HX1.out own7 gr7 at7); have HWZ7 := hid (R7.out.2.2.2.size); clear own7 gr7 at7 nb)
          | (at_builtin; refine wpList_push eltIntS rfl (.tmp 31) (.tmp 34) rfl w.heap.size _ i _ R7.out.2.1 (by omega) HWZ7.out _ _ rfl rfl rfl rfl (fun q hq => oc1 _ q hq) ?_; intro A8 c8 w8 own8 gr8 at8; have R8 := hid (tr_push2 R7.out HX2.out own8 gr8 at8); clear own8 gr8 at8))
        go_roundg (L.length - (i + 1))
        case measure => omega
        case rel => exact ⟨i + 1, c7, c8, A7, A8, by omega, by omega, rfl, rfl, by go_num, R8.out⟩
      · obtain rfl : i = L.length := by omega
        obtain ⟨wo, hwo⟩ : ∃ wo : World, wo = wr := ⟨_, rfl⟩
        subst hwo
        obtain ⟨o4, o5, -, bb⟩ := R.out
        rw [List.take_of_length_le (by rw [PL.out.1]; exact Nat.le_refl _)] at o4
        rw [List.take_of_length_le (by rw [PL.out.2]; exact Nat.le_refl _)] at o5
        have hle4 := slice_le o4
        have A4O := OwnA.of_rowN (enc := encI) (k := 1) (fun _ => rfl) PL.out.1.symm rfl o4
        have A5O := OwnA.of_rowN (enc := encI) (k := 1) (fun _ => rfl) PL.out.2.symm rfl o5
        have LT4 := hid (fun a (e : A4 = some a) => A4O.lt (by rw [PL.out.1]; omega) a e)
        have tot := HT.out A4 c4 wo A4O.arr
        have OO := hid A4O
        have sha := HSH.out A5 c5 wo A5O.arr
        have BB := hid bb
        have HLE4 := hid hle4
        clear R R0 o4 o5 bb A4O A5O hle4
        go_wp2_with fail
        refine tot.mono ?_
        rintro e w1 ⟨rfl, rfl⟩
        go_wp2_with fail
        rw [HLE.out]
        refine sha.mono ?_
        rintro e w2 ⟨A9, c9, he, h91, h92, o9, b9⟩
        rw [ML.out] at he
        subst he
        have ZB : Aside (Tr2 w wo (sizesT L) M 0 A4 A9 w2) := ⟨by rw [addTo_zero]; exact OO.out.next b9, o9, LT4.out, chain BB.out b9⟩
        clear sha h91 h92 o9 b9
        go_wp2
        go_loopg [12, 13, 52] L.length (fun gg _ _ s52 wr => ∃ k : Nat, k ≤ L.length ∧ L.length - k ≤ gg ∧ s52 = .int .i64 k ∧ Aside (Tr2 w wo (sizesT L) M k A4 A9 wr))
        case atStart => exact ⟨0, Nat.zero_le _, by omega, rfl, ZB⟩
        case round =>
          obtain ⟨k, hk, hgg, rfl, R⟩ := hrel
          obtain ⟨r1, r2, r3, r4⟩ := R.out
          by_cases hlt : k < L.length
          · have hx := List.getElem?_eq_getElem (l := sizesT L) (i := k) (by rw [PL.out.1]; exact hlt)
            have hy := List.getElem?_eq_getElem (l := M) (i := k) (by rw [ML.out]; exact hlt)
            have bx := HS.out _ (List.mem_of_getElem? hx)
            have byy := HM.out _ (List.mem_of_getElem? hy)
            generalize (sizesT L)[k]'(by rw [PL.out.1]; exact hlt) = x at hx bx
            generalize M[k]'(by rw [ML.out]; exact hlt) = y at hy byy
            obtain ⟨n1, n2, n3⟩ := addTo_next hx hy
            obtain ⟨g4, f4, rfl, hb4, hz4, hc4, hf4⟩ := r1.at_ n1
            obtain ⟨g9, f9, rfl, hb9, hz9, hc9, -⟩ := r2.at_ hy
            have hlt4 := r3 _ rfl
            have d1 : wr.cell? ⟨g4, f4 + k, none⟩ = some (.int .i64 x) := by simpa using hc4 0 _ rfl
            have d2 : wr.cell? ⟨g9, f9 + k, none⟩ = some (.int .i64 y) := by simpa using hc9 0 _ rfl
            have d3 := hf4 (f4 + k)
            have S1 := r1.set_ (k := 1) (fun _ => rfl) (j := 0) (y' := x + y) (v := .int .i64 (x + y)) n1 (by omega) rfl
            rw [← n2] at S1
            have F : Aside (Tr2 w wo (sizesT L) M (k + 1) (some ⟨g4, f4, none⟩) (some ⟨g9, f9, none⟩) (wr.setCell ⟨g4, f4 + k, none⟩ (.int .i64 (x + y)))) :=
              ⟨by simpa using S1, r2.apart (grown_set (World.grownBy.refl wr (some g4)) (f4 + k) _) (fun g e => by injection e with e; subst e; exact .inl (by simpa using hlt4)), r3, r4.setCell (p := ⟨g4, f4 + k, none⟩) hb4 _⟩
            obtain ⟨bx1, bx2⟩ := bx
            obtain ⟨by1, by2⟩ := byy
            clear R ZB r1 r2 r3 r4 hx hy n1 n2 n3 hc4 hf4 hc9 S1 hlt4 tot LT4 OO
            go_wp2
            go_roundg (L.length - (k + 1))
            case measure => omega
            case rel => exact ⟨k + 1, by omega, by omega, by go_num, F⟩
          · obtain rfl : k = L.length := by omega
            have E := hid r1
            have EB := hid r4
            clear R ZB r1 r2 r3 r4
            go_wp2
            go_ret
            exact gives_n TL.out.symm HLE4.out.1 HLE4.out.2 (by rw [TM.out]; exact E.out) EB.out
end Go.Proofs.Ytjebjcabggmaiaa
