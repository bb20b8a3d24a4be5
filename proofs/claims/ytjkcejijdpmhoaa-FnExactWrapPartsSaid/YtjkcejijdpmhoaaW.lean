/- impl.wrapped: the walk. -/
import Derived.Test.YtjkcejijdpmhoaaE
import Derived.Test.YtjkcejijdpmhoaaM
import Derived.Deep.QuietTactic
import Derived.BigQuiet
namespace Go.Proofs.Ytjkcejijdpmhoaa
open Go.RowKit Go.Lib

/-- A slice value a cell. -/
def encV (v : Value) : List Value := [v]
/-- The slice values vs are the lines ls, which lie below block B. -/
def LinesAt (w : World) (B : Nat) (vs : List Value) (ls : List (List (Int × Int))) : Prop :=
  vs.length = ls.length ∧ ∀ (i : Nat) (v : Value), vs[i]? = some v → ∃ (A : Option Addr) (c : Nat) (l : List (Int × Int)), ls[i]? = some l ∧ v = Value.slice A l.length c ∧ Arr w B 2 encP A l

theorem LinesAt.next {w w' : World} {vs : List Value} {ls : List (List (Int × Int))} (h : LinesAt w w.heap.size vs ls) (hb : Below w.heap.size w w') : LinesAt w' w'.heap.size vs ls :=
  ⟨h.1, fun i v hv => by obtain ⟨A, c, l, h1, h2, h3⟩ := h.2 i v hv; exact ⟨A, c, l, h1, h2, h3.next hb⟩⟩
theorem LinesAt.snoc {w : World} {B : Nat} {vs : List Value} {ls : List (List (Int × Int))} {A : Option Addr} {l : List (Int × Int)} {c : Nat} (h : LinesAt w B vs ls) (ha : Arr w B 2 encP A l) : LinesAt w B (vs ++ [.slice A l.length c]) (ls ++ [l]) := by
  refine ⟨by simp [h.1], fun i v hv => ?_⟩
  by_cases hi : i < vs.length
  · rw [List.getElem?_append_left hi] at hv
    obtain ⟨A', c', l', h1, h2, h3⟩ := h.2 i v hv
    exact ⟨A', c', l', by rw [List.getElem?_append_left (by rw [← h.1]; exact hi)]; exact h1, h2, h3⟩
  · rw [List.getElem?_append_right (by omega)] at hv
    have hi0 : i - vs.length = 0 := by
      have := (List.getElem?_eq_some_iff.1 hv).1
      simp at this
      omega
    rw [hi0] at hv
    simp at hv
    subst hv
    exact ⟨A, c, l, by rw [List.getElem?_append_right (by rw [← h.1]; omega), ← h.1, hi0]; rfl, rfl, ha⟩

theorem eltLine : Elt Try.prog 63 23 1 24 := Elt.mk' Try.underlying63 (z := .slice none 0 0) (by kernel_rfl) rfl (by omega) (by omega)

theorem oneV (A : Option Addr) (n c : Nat) : ∀ u ∈ (#[Value.slice A n c]).toList, u.oneCell' = true := by
  intro u hu
  simp at hu
  subst hu
  rfl

theorem flat_one (vs : List Value) : vs.flatMap encV = vs := by
  induction vs with
  | nil => rfl
  | cons v vs ih => rw [List.flatMap_cons, ih]; rfl

/-- What wrapped leaves. -/
def Wrapped (ls : List (List (Int × Int))) (w : World) (e : Ending) (w' : World) : Prop :=
  ∃ A c vs, e = .returned (.slice A ls.length c) ∧ vs.length = ls.length ∧ OwnA w' w.heap.size 1 encV A vs ∧ LinesAt w' w.heap.size vs ls ∧ Below w.heap.size w w'

/-- The outer loop's relation. -/
def WRel (w : World) (width gap : Int) (L : List (Int × Int)) (A' : Option Addr) (c' : Nat) (R : List (Int × Int)) (A2 : Option Addr) (c2 n2 : Nat) (wr : World) : Prop :=
  ∃ (D : List (List (Int × Int))) (vs : List Value), n2 = D.length ∧ lines width gap L = D ++ lines width gap R ∧ R.length + D.length ≤ L.length ∧ (∀ p ∈ R, okP p = true) ∧ R.length ≤ c' ∧ Arr w w.heap.size 2 encP A' R ∧
    wr.ownsRow w.heap.size 23 1 (.slice A2 n2 c2) n2 vs ∧ LinesAt w w.heap.size vs D ∧ Below w.heap.size w wr

theorem okP_bd {p : Int × Int} (h : okP p = true) : (0 ≤ p.1 ∧ p.1 ≤ 10000) ∧ (0 ≤ p.2 ∧ p.2 ≤ 10000) := by
  simp only [okP, Bool.and_eq_true, inR_iff] at h
  exact h

set_option maxHeartbeats 2000000 in
theorem wrapped_any (A : Option Addr) (L : List (Int × Int)) (c : Nat) (width gap : Int) (w : World) (hv : validL L = true) (hw : 0 ≤ width ∧ width ≤ 10000) (hg : 0 ≤ gap ∧ gap ≤ 50) (hc1 : L.length ≤ c) (hc2 : c ≤ maxLen) (h : Arr w w.heap.size 2 encP A L) :
    Calls Try.prog 58 #[.slice A L.length c, .int .i64 width, .int .i64 gap] w (Wrapped (lines width gap L) w) := by
  obtain ⟨hw0, hw1⟩ := hw
  obtain ⟨hg0, hg1⟩ := hg
  have hl12 := (validL_iff.1 hv).1
  have R0 : ∀ wr o, wr = w.alloc o → o = .cells #[] 23 → Aside (WRel w width gap L A c L (some ⟨w.heap.size, 0, none⟩) 0 0 wr) := fun wr o e1 e2 => by
    subst e1 e2
    exact ⟨[], [], rfl, rfl, by simp, (validL_iff.1 hv).2, hc1, h, World.ownsRow_made w #[] 0 (Nat.le_refl _) (by simp [maxLen]) rfl, ⟨rfl, by simp⟩, (Below.refl _ _).alloc (Nat.le_refl _) _⟩
  clear hv h hc2
  go_enter Try.func58, Try.ntmps58
  go_wp2
  go_loopg [0, 7] L.length (fun gg s0 s7 wr => ∃ (A' : Option Addr) (c' : Nat) (R : List (Int × Int)) (A2 : Option Addr) (c2 n2 : Nat), s0 = .slice A' R.length c' ∧ R.length ≤ gg ∧ s7 = .slice A2 n2 c2 ∧ Aside (WRel w width gap L A' c' R A2 c2 n2 wr))
  case atStart => exact ⟨A, c, L, _, 0, 0, rfl, Nat.le_refl _, rfl, R0 _ _ rfl rfl⟩
  case round =>
    obtain ⟨A', c', R, A2, c2, n2, rfl, hgg, rfl, W⟩ := hrel
    clear R0
    obtain ⟨D, vs, hn2, hD, hRD, hok, hRc, hA, hown, hat, hb⟩ := W.out
    have HD := hid hD
    have HOK := hid hok
    have HA := hid hA
    have HO := hid hown
    have HAT := hid hat
    have HB := hid hb
    have HN := hid hn2
    clear W hD hok hA hown hat hb hn2
    by_cases hpos : 0 < R.length
    · obtain ⟨b, off, x, y, rfl, hbb, hx, q1, q2⟩ := (HA.out.below HB.out).at2 hpos
      have hx0 := (okP_bd (HOK.out _ (List.mem_of_getElem? hx))).1
      obtain ⟨hx0, hx1⟩ := hx0
      have hx2 : x ≤ 10000 := hx1
      have hx3 : 0 ≤ x := hx0
      have HX := hid hx
      have hpi : (0 : Int) < (R.length : Int) := by omega
      clear hx hx0 hx1
      simp only [Nat.zero_mul, Nat.add_zero] at q1 q2
      have F0 : Aside (head width gap R = 1 + fit width gap x (R.drop 1)) := by
        have := HX.out
        cases R with
        | nil => simp at this
        | cons p R =>
          simp at this
          subst this
          show fit width gap x R + 1 = _
          simp [Nat.add_comm]
      go_wp2_with fail
      go_quiet (fail)
      go_wp2
      go_loop [8, 9] (fun s8 s9 => ∃ (kk : Nat) (used : Int), s8 = .int .i64 kk ∧ s9 = .int .i64 used ∧ 1 ≤ kk ∧ kk ≤ R.length ∧ 0 ≤ used ∧ used ≤ 10000 ∧ Aside (head width gap R = kk + fit width gap used (R.drop kk))) (fun s8 _ => R.length - (intOf s8).toNat)
      case atStart => exact ⟨1, x, rfl, rfl, Nat.le_refl _, hpos, hx3, hx2, F0⟩
      case round =>
        obtain ⟨kk, used, rfl, rfl, hk1, hk2, hu1, hu2, F⟩ := hrel
        clear F0
        have ways : (∃ x' y' : Int, R[kk]? = some (x', y') ∧ used + gap + x' ≤ width) ∨ (∃ x' y' : Int, R[kk]? = some (x', y') ∧ ¬ used + gap + x' ≤ width) ∨ kk = R.length := by
          rcases Nat.lt_or_ge kk R.length with hlt | hge
          · rcases Int.lt_or_le width (used + gap + R[kk].1) with h | h
            · exact .inr (.inl ⟨R[kk].1, R[kk].2, List.getElem?_eq_getElem hlt, by omega⟩)
            · exact .inl ⟨R[kk].1, R[kk].2, List.getElem?_eq_getElem hlt, h⟩
          · exact .inr (.inr (by omega))
        have hfit : ∀ x' y', R[kk]? = some (x', y') → fit width gap used (R.drop kk) = if used + gap + x' ≤ width then fit width gap (used + gap + x') (R.drop (kk + 1)) + 1 else 0 := fun x' y' hx' => by
          obtain ⟨hlt, e⟩ := List.getElem?_eq_some_iff.1 hx'
          rw [List.drop_eq_getElem_cons hlt, e]
          rfl
        have HFIT := hid hfit
        clear hfit
        have hkc : kk ≤ c' := by omega
        rcases ways with ⟨x', y', hx', hle⟩ | stop
        · have hlt := (List.getElem?_eq_some_iff.1 hx').1
          obtain ⟨x2, y2, hx2', q3, q4, _⟩ := (HA.out.below HB.out).lit2 hlt
          have e := hx'.symm.trans hx2'
          injection e with e
          injection e with e1 e2
          subst e1 e2
          have hx0' := (okP_bd (HOK.out _ (List.mem_of_getElem? hx'))).1
          have hx5 : x' ≤ 10000 := hx0'.2
          have hx6 : 0 ≤ x' := hx0'.1
          have HF := hid (HFIT.out x' y' hx')
          clear hx0' hx' hx2'
          go_wp2
          go_round
          case measure => simp [intOf]; omega
          case rel =>
            refine ⟨kk + 1, used + gap + x', by go_num, by go_num, by omega, by omega, by omega, by omega, ?_⟩
            show _ = _
            rw [F.out, HF.out, if_pos hle]
            omega
        · have HF : Aside (head width gap R = kk) := by
            show _ = _
            rw [F.out]
            rcases stop with ⟨x', y', hx', hle⟩ | e
            · rw [HFIT.out x' y' hx', if_neg hle]; omega
            · subst e
              rw [List.drop_length]
              rfl
          have hkp : 0 < kk := by omega
          have hsz := HB.out.size
          have hn2 : n2 ≤ 1000000 := by have := HN.out; omega
          have WN : ∀ A4 c4, (R.drop kk).length ≤ c4 → Arr w w.heap.size 2 encP A4 (R.drop kk) → ∀ A3 c3 w3, w3.ownsRow w.heap.size 23 1 (.slice A3 (n2 + 1) c3) (n2 + 1) (vs ++ [.slice (some ⟨b, off, none⟩) kk kk]) → (wr.drewN nq).grownBy w3 (Value.slice A2 n2 c2).ownBlock →
              Aside (WRel w width gap L A4 c4 (R.drop kk) A3 c3 (n2 + 1) w3) := fun A4 c4 h4c h4 A3 c3 w3 ho hg => by
            have hlen : (R.take kk).length = kk := by rw [List.length_take]; omega
            refine ⟨D ++ [R.take kk], vs ++ [.slice (some ⟨b, off, none⟩) kk kk], by rw [HN.out]; simp, ?_, by simp; omega, fun p hp => HOK.out p (List.mem_of_mem_drop hp), h4c, h4, ho, ?_, ?_⟩
            · rw [HD.out, lines_cons width gap hpos, HF.out, List.append_assoc]
              rfl
            · have := HAT.out.snoc (c := kk) (HA.out.take kk)
              rw [hlen] at this
              exact this
            · exact (Below_drewN HB.out nq).grown hg hsz (fun g hg => (HO.out.lt g hg).1)
          clear F
          rcases stop with ⟨x', y', hx', hle⟩ | hkR
          · have hlt := (List.getElem?_eq_some_iff.1 hx').1
            obtain ⟨x2, y2, hx2', q3, q4, _⟩ := (HA.out.below HB.out).lit2 hlt
            have e := hx'.symm.trans hx2'
            injection e with e
            injection e with e1 e2
            subst e1 e2
            have hx0' := (okP_bd (HOK.out _ (List.mem_of_getElem? hx'))).1
            have hx5 : x' ≤ 10000 := hx0'.2
            have hx6 : 0 ≤ x' := hx0'.1
            clear hx0' hx' hx2'
            go_wp2_with (at_builtin; refine wpList_push eltLine rfl (.tmp 46) (.tmp 51) rfl w.heap.size _ n2 vs (show (wr.drewN nq).ownsRow w.heap.size 23 1 (.slice A2 n2 c2) n2 vs from HO.out) hn2 hsz _ _ rfl rfl rfl rfl (oneV _ _ _) ?_; intro A3 c3 w3 own3 gr3 _)
            have A4 : Arr w w.heap.size 2 encP (some ⟨b, off + kk * 2, none⟩) (R.drop kk) := by
              have := HA.out.drop hRc kk
              rw [if_neg (by omega)] at this
              simpa [Addr.add_lit] using this
            have WN' := WN _ (c' - kk) (by rw [List.length_drop]; omega) A4 _ _ _ own3 gr3
            clear A4
            clear own3 gr3 WN
            go_wp2
            go_roundg (R.length - kk)
            case measure => omega
            case rel => exact ⟨_, _, R.drop kk, _, _, _, by rw [List.length_drop], by rw [List.length_drop]; omega, rfl, WN'⟩
          · subst hkR
            by_cases hcc : c' = R.length
            · subst hcc
              go_wp2_with (at_builtin; refine wpList_push eltLine rfl (.tmp 46) (.tmp 51) rfl w.heap.size _ n2 vs (show (wr.drewN nq).ownsRow w.heap.size 23 1 (.slice A2 n2 c2) n2 vs from HO.out) hn2 hsz _ _ rfl rfl rfl rfl (oneV _ _ _) ?_; intro A3 c3 w3 own3 gr3 _)
              have WN' : ∀ A4 c4, Aside (WRel w width gap L A4 c4 [] A3 c3 (n2 + 1) w3) := fun A4 c4 => by
                have := WN A4 c4 (by simp) (by rw [List.drop_length]; exact Arr.nil_) _ _ _ own3 gr3
                rw [List.drop_length] at this
                exact this
              have WH := hid WN'
              clear own3 gr3 WN WN'
              go_wp2
              go_roundg 0
              case measure => omega
              case rel => exact ⟨_, _, [], _, _, _, rfl, Nat.le_refl _, rfl, WH.out _ _⟩
            · have hcc' : R.length < c' := by omega
              clear hcc
              go_wp2_with (at_builtin; refine wpList_push eltLine rfl (.tmp 46) (.tmp 51) rfl w.heap.size _ n2 vs (show (wr.drewN nq).ownsRow w.heap.size 23 1 (.slice A2 n2 c2) n2 vs from HO.out) hn2 hsz _ _ rfl rfl rfl rfl (oneV _ _ _) ?_; intro A3 c3 w3 own3 gr3 _)
              have WN' : ∀ A4 c4, Aside (WRel w width gap L A4 c4 [] A3 c3 (n2 + 1) w3) := fun A4 c4 => by
                have := WN A4 c4 (by simp) (by rw [List.drop_length]; exact Arr.nil_) _ _ _ own3 gr3
                rw [List.drop_length] at this
                exact this
              have WH := hid WN'
              clear own3 gr3 WN WN'
              go_wp2
              go_roundg 0
              case measure => omega
              case rel => exact ⟨_, _, [], _, _, _, rfl, Nat.le_refl _, rfl, WH.out _ _⟩
    · have hR : R = [] := List.eq_nil_of_length_eq_zero (by omega)
      have hls : lines width gap L = D := by rw [HD.out, hR, lines_nil, List.append_nil]
      have HL := hid hls
      clear hls hR
      go_wp2
      go_ret
      have hv : vs.length = D.length := HAT.out.1
      have hnv : n2 = vs.length := by rw [HN.out, hv]
      refine ⟨A2, c2, vs, by rw [HL.out, ← hv, ← hnv]; rfl, by rw [HL.out]; exact hv, OwnA.of_rowN (fun _ => rfl) hnv (flat_one vs).symm HO.out, ?_, HB.out⟩
      rw [HL.out]
      exact ⟨hv, fun i v hi => by obtain ⟨A, c, l, h1, h2, h3⟩ := HAT.out.2 i v hi; exact ⟨A, c, l, h1, h2, h3.below HB.out⟩⟩
end Go.Proofs.Ytjkcejijdpmhoaa
