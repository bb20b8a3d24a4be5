/- The generators of queues: spec.PushTask, someTasks, anyTasks. -/
import Derived.Test.YthppgaglmgnocaaK6
import Derived.Test.YthppgaglmgnocaaDG
import Derived.StillTailTactics
namespace Go.Proofs.Ythppgaglmgnocaa
set_option linter.unusedVariables false
set_option linter.unusedSimpArgs false
open Go.RowKit Go.Lib

/-- What PushTask leaves: some queue, which is valid if the flag says so. -/
def Pushed (w : World) (e : Ending) (w' : World) : Prop :=
  ∃ (A : Option Addr) (c : Nat) (L : List TaskD) (ok : Bool), e = .returned (.tuple #[.slice A L.length c, .bool ok]) ∧ (ok = true → validT L = true) ∧ w'.ownsRow w.heap.size 31 3 (.slice A L.length c) L.length (L.flatMap encTask) ∧ Below w.heap.size w w'
theorem Pushed.no {w w' : World} {e : Ending} (he : e = .returned (.tuple #[.slice none 0 0, .bool false])) (hb : Below w.heap.size w w') : Pushed w e w' :=
  ⟨none, 0, [], false, he, (fun h => by cases h), ⟨by simp, .inl ⟨rfl, rfl⟩⟩, hb⟩

theorem row_set3 {w : World} {base g : Nat} {v : Value} {n : Nat} {e : TypeId} {size : Nat} {xs : List Value} {v0 v1 v2 : Value} (h : w.ownsRow base e size v n xs) (hne : ∀ q, v.ownBlock = some q → q ≠ g) :
    (((w.setCell ⟨g, 0, none⟩ v0).setCell ⟨g, 1, none⟩ v1).setCell ⟨g, 2, none⟩ v2).ownsRow base e size v n xs := by
  refine h.kept (row := some g) (grown_set (grown_set (grown_set (World.grownBy.refl w (some g)) 0 _) 1 _) 2 _) ?_
  cases hv : v.ownBlock with
  | none => exact .inl rfl
  | some k =>
    refine .inr ?_
    intro e2
    injection e2 with e2
    exact hne k hv e2

/-- The loops' relation: a row, and the task to come in a block. -/
def PRelK (w : World) (i : Nat) (A8 : Option Addr) (n8 c8 : Nat) (wr : World) : Prop :=
  ∃ (C : List TaskD) (t : TaskD), n8 = C.length ∧ C.length ≤ i ∧ wr.ownsRow w.heap.size 31 3 (.slice A8 n8 c8) n8 (C.flatMap encTask) ∧
    wr.heap[w.heap.size + 1]? = some (.cells #[.int .i64 t.Id, .int .i64 t.Rank, .int .i64 t.Age] 31 (0, 0)) ∧ (∀ g, (Value.slice A8 n8 c8).ownBlock = some g → g ≠ w.heap.size + 1) ∧ Below w.heap.size w wr

set_option maxHeartbeats 4000000 in
theorem pushS_any (A : Option Addr) (L : List TaskD) (c : Nat) (id rank : Int) (w : World) (hL : L.length ≤ 1000) (h : Arr w w.heap.size 3 encTask A L) :
    Calls Try.prog 64 #[.slice A L.length c, .int .i64 id, .int .i64 rank] w (Pushed w) := by
  have hv := hid (fun W hW => specvalidTasks_any A L c W (by omega) hW)
  have H := hid h
  have K : ∀ o o', Below w.heap.size w ((w.alloc o).alloc o') := fun o o' => ((Below.refl _ _).alloc (Nat.le_refl _) _).alloc (by simp) _
  have HK := hid K
  have R00 : ∀ W W1 o1 o2, W = (w.alloc o1).alloc o2 → o1 = .cells #[] 31 → o2 = .cells #[.int .i64 id, .int .i64 rank, .int .i64 0] 31 → Below W.heap.size W W1 → Aside (PRelK w 0 (some ⟨w.heap.size, 0, none⟩) 0 0 W1) := fun W W1 o1 o2 e1 e2 e3 hb => by
    subst e1 e2 e3
    refine ⟨[], ⟨id, rank, 0⟩, rfl, Nat.le_refl _, ?_, ?_, fun g hg => ?_, (K _ _).trans (hb.mono (by simp; omega))⟩
    · exact row_next ((World.ownsRow_made w #[] 0 (Nat.le_refl _) (by simp [maxLen]) rfl).alloc _) hb
    · rw [hb.block _ (by simp)]
      have := heap_alloc_new (w.alloc (.cells #[] 31)) (.cells #[.int .i64 id, .int .i64 rank, .int .i64 0] 31)
      simpa using this
    · simp [Value.ownBlock] at hg
      omega
  have HR00 := hid R00
  clear h K R00
  cases h1 : validT L
  · rw [h1] at hv
    clear h1 HR00
    go_enter Try.func64, Try.ntmps64
    go_wp2_with fail
    refine (hv.out _ ((H.out.below (HK.out _ _)).more (by simp; omega))).mono ?_
    rintro e w1 ⟨rfl, b1⟩
    have B1 := hid ((HK.out _ _).trans (b1.mono (by simp; omega)))
    clear b1
    go_wp2
    go_ret2
    exact Pushed.no rfl B1.out
  · rw [h1] at hv
    clear h1
    have q1 := fun W => inRangeQ_any id 0 99 W
    have q2 := fun W => inRangeQ_any rank 0 50 W
    cases h2 : inR id 0 99
    · rw [h2] at q1
      have Q1 := hid q1
      clear q1 q2 h2 HR00
      go_enter Try.func64, Try.ntmps64
      go_wp2_with fail
      refine (hv.out _ ((H.out.below (HK.out _ _)).more (by simp; omega))).mono ?_
      rintro e w1 ⟨rfl, b1⟩
      have B1 := hid ((HK.out _ _).trans (b1.mono (by simp; omega)))
      clear b1
      go_wp2_with fail
      refine (Q1.out _).mono ?_
      rintro e w2 ⟨rfl, rfl⟩
      go_wp2
      go_ret2
      exact Pushed.no rfl B1.out
    · rw [h2] at q1
      have Q1 := hid q1
      clear q1 h2
      cases h3 : inR rank 0 50
      · rw [h3] at q2
        have Q2 := hid q2
        clear q2 h3 HR00
        go_enter Try.func64, Try.ntmps64
        go_wp2_with fail
        refine (hv.out _ ((H.out.below (HK.out _ _)).more (by simp; omega))).mono ?_
        rintro e w1 ⟨rfl, b1⟩
        have B1 := hid ((HK.out _ _).trans (b1.mono (by simp; omega)))
        clear b1
        go_wp2_with fail
        refine (Q1.out _).mono ?_
        rintro e w2 ⟨rfl, rfl⟩
        go_wp2_with fail
        refine (Q2.out _).mono ?_
        rintro e w2 ⟨rfl, rfl⟩
        go_wp2
        go_ret2
        exact Pushed.no rfl B1.out
      · rw [h3] at q2
        have Q2 := hid q2
        clear q2 h3
        go_enter Try.func64, Try.ntmps64
        go_wp2_with fail
        refine (hv.out _ ((H.out.below (HK.out _ _)).more (by simp; omega))).mono ?_
        rintro e w1 ⟨rfl, b1⟩
        have R0 := HR00.out _ _ _ _ rfl rfl rfl b1
        clear b1 HR00
        go_wp2_with fail
        refine (Q1.out _).mono ?_
        rintro e w2 ⟨rfl, rfl⟩
        go_wp2_with fail
        refine (Q2.out _).mono ?_
        rintro e w2 ⟨rfl, rfl⟩
        go_wp2
        go_loopg [8, 10] L.length (fun gg s8 s10 wr => ∃ (i n8 c8 : Nat) (A8 : Option Addr), i ≤ L.length ∧ L.length - i ≤ gg ∧ s8 = .slice A8 n8 c8 ∧ s10 = .int .i64 i ∧ Aside (PRelK w i A8 n8 c8 wr))
        case atStart => exact ⟨0, _, _, _, Nat.zero_le _, by omega, rfl, rfl, R0⟩
        case round =>
          obtain ⟨i, n8, c8, A8, hi, hgg, rfl, rfl, R⟩ := hrel
          clear R0
          obtain ⟨C, t, hn8, hCi, hown, hblk, hap, hbl⟩ := R.out
          have HN := hid hn8
          have HO := hid hown
          have HBLK := hid hblk
          have HAP := hid hap
          have HB := hid hbl
          have hsz := hbl.size
          have hzz : w.heap.size + 1 < wr.heap.size := (Array.getElem?_eq_some_iff.1 hblk).1
          obtain ⟨⟨t1, t2, t3⟩, f1, f2, f3⟩ := cells3 hblk
          have hn : n8 ≤ 100000 := by omega
          clear R hn8 hown hblk hap hbl
          by_cases hlt : i < L.length
          · obtain ⟨p, off, x, rfl, hp, hx, d1, d2, d3⟩ := (H.out.below HB.out).atTask hlt
            have hpw : p < wr.heap.size := by omega
            have hne : p ≠ w.heap.size + 1 := by omega
            have i1 : (0 : Int) ≤ (i : Int) := by omega
            have i2 : (i : Int) < (L.length : Int) := by omega
            clear hx
            by_cases hlt2 : x.Id < id
            · go_wp2_with (at_builtin; refine wpList_push eltTaskK rfl (.tmp 43) (.tmp 48) rfl w.heap.size _ n8 _ HO.out (by omega) hsz _ _ rfl rfl rfl rfl (fun q hq => ocTask x q hq) ?_; intro A9 c9 w9 own9 gr9 at9)
              have F : Aside (PRelK w (i + 1) A9 (n8 + 1) c9 w9) := by
                refine ⟨C ++ [x], t, by rw [HN.out]; simp, by simp; omega, by rw [List.flatMap_append]; exact own9, (gr9.block _ hzz (fun e => HAP.out _ e.symm rfl)).trans HBLK.out, fun g hg => ?_, HB.out.grown gr9 hsz (fun q hq => (HO.out.lt q hq).1)⟩
                rcases at9 g hg with h | h
                · exact HAP.out g h
                · omega
              clear own9 gr9 at9
              go_wp2
              go_roundg (L.length - (i + 1))
              case measure => omega
              case rel => exact ⟨i + 1, n8 + 1, c9, A9, by omega, by omega, rfl, by go_num, F⟩
            · by_cases heq : x.Id = id
              · have hb : (x.Id == id) = true := by rw [beq_iff_eq]; exact heq
                have HEQ := hid heq
                clear heq
                go_wp2_with fail
                go_region
                go_wp2
                go_roundg (L.length - (i + 1))
                case measure => omega
                case rel =>
                  refine ⟨i + 1, n8, c8, A8, by omega, by omega, rfl, by go_num, ⟨C, ⟨id, min rank x.Rank, x.Age⟩, HN.out, by omega, ?_, set3_block HBLK.out, HAP.out, ?_⟩⟩
                  · exact row_set3 HO.out HAP.out
                  · exact below_drewT (below3 (Below.refl _ _) HB.out (by omega))
              · have hb : (x.Id == id) = false := by rw [beq_eq_false_iff_ne]; exact heq
                have HEQ := hid heq
                clear heq
                have F : Aside (PRelK w (i + 1) A8 n8 c8 wr) := ⟨C, t, HN.out, by omega, HO.out, HBLK.out, HAP.out, HB.out⟩
                go_wp2
                go_roundg (L.length - (i + 1))
                case measure => omega
                case rel => exact ⟨i + 1, n8, c8, A8, by omega, by omega, rfl, by go_num, F⟩
          · have hil : i = L.length := by omega
            subst hil
            go_wp2_with (at_builtin; refine wpList_push eltTaskK rfl (.tmp 72) (.tmp 74) rfl w.heap.size _ n8 _ HO.out (by omega) hsz _ _ rfl rfl rfl rfl (fun q hq => ocTask t q hq) ?_; intro A9 c9 w9 own9 gr9 at9)
            have R1 : Aside (∃ C : List TaskD, n8 + 1 = C.length ∧ C.length ≤ L.length + 1 ∧ w9.ownsRow w.heap.size 31 3 (.slice A9 (n8 + 1) c9) (n8 + 1) (C.flatMap encTask) ∧ Below w.heap.size w w9) :=
              ⟨C ++ [t], by rw [HN.out]; simp, by simp; omega, by rw [List.flatMap_append]; exact own9, HB.out.grown gr9 hsz (fun q hq => (HO.out.lt q hq).1)⟩
            clear own9 gr9 at9 HO HB HN HBLK HAP t1 t2 t3 f1 f2 f3 hzz hsz
            go_wp2
            go_loopg [8, 11] L.length (fun gg s8 s11 wr => ∃ (i n8 c8 : Nat) (A8 : Option Addr), i ≤ L.length ∧ L.length - i ≤ gg ∧ s8 = .slice A8 n8 c8 ∧ s11 = .int .i64 i ∧ Aside (∃ C : List TaskD, n8 = C.length ∧ C.length ≤ L.length + 1 + i ∧ wr.ownsRow w.heap.size 31 3 (.slice A8 n8 c8) n8 (C.flatMap encTask) ∧ Below w.heap.size w wr))
            case atStart =>
              obtain ⟨C, h1, h2, h3, h4⟩ := R1.out
              exact ⟨0, _, _, _, Nat.zero_le _, by omega, rfl, rfl, C, h1, h2, h3, h4⟩
            case round =>
              obtain ⟨i, n8, c8, A8, hi, hgg, rfl, rfl, R⟩ := hrel
              clear R1
              obtain ⟨C, hn8, hCi, hown, hbl⟩ := R.out
              have HN := hid hn8
              have HO := hid hown
              have HB := hid hbl
              have hsz := hbl.size
              have hn : n8 ≤ 100000 := by omega
              clear R hn8 hown hbl
              by_cases hlt : i < L.length
              · obtain ⟨p, off, x, rfl, hp, hx, d1, d2, d3⟩ := (H.out.below HB.out).atTask hlt
                clear hx
                by_cases hlt2 : id < x.Id
                · go_wp2_with (at_builtin; refine wpList_push eltTaskK rfl (.tmp 89) (.tmp 94) rfl w.heap.size _ n8 _ HO.out (by omega) hsz _ _ rfl rfl rfl rfl (fun q hq => ocTask x q hq) ?_; intro A9 c9 w9 own9 gr9 at9)
                  have F : Aside (∃ C : List TaskD, n8 + 1 = C.length ∧ C.length ≤ L.length + 1 + (i + 1) ∧ w9.ownsRow w.heap.size 31 3 (.slice A9 (n8 + 1) c9) (n8 + 1) (C.flatMap encTask) ∧ Below w.heap.size w w9) :=
                    ⟨C ++ [x], by rw [HN.out]; simp, by simp; omega, by rw [List.flatMap_append]; exact own9, HB.out.grown gr9 hsz (fun q hq => (HO.out.lt q hq).1)⟩
                  clear own9 gr9 at9
                  go_wp2
                  go_roundg (L.length - (i + 1))
                  case measure => omega
                  case rel => exact ⟨i + 1, n8 + 1, c9, A9, by omega, by omega, rfl, by go_num, F⟩
                · have F : Aside (∃ C : List TaskD, n8 = C.length ∧ C.length ≤ L.length + 1 + (i + 1) ∧ wr.ownsRow w.heap.size 31 3 (.slice A8 n8 c8) n8 (C.flatMap encTask) ∧ Below w.heap.size w wr) := ⟨C, HN.out, by omega, HO.out, HB.out⟩
                  go_wp2
                  go_roundg (L.length - (i + 1))
                  case measure => omega
                  case rel => exact ⟨i + 1, n8, c8, A8, by omega, by omega, rfl, by go_num, F⟩
              · have hil : i = L.length := by omega
                subst hil
                have harr : ∀ W, Below wr.heap.size wr W → True := fun _ _ => trivial
                have hN := HN.out
                subst hN
                have hva := fun (hW : Arr wr wr.heap.size 3 encTask A8 C) => specvalidTasks_any A8 C c8 wr (by omega) hW
                have hvv := hva (OwnA.of_row (enc := encTask) (k := 3) (fun _ => rfl) HO.out).arr
                have HVV := hid hvv
                clear hva hvv harr
                cases hq : validT C
                · rw [hq] at HVV
                  clear hq
                  go_wp2_with fail
                  refine HVV.out.mono ?_
                  rintro e w2 ⟨rfl, b2⟩
                  have B2 := hid (HB.out.trans (b2.mono hsz))
                  clear b2
                  go_wp2
                  go_ret2
                  exact Pushed.no rfl B2.out
                · rw [hq] at HVV
                  have HQ := hid hq
                  clear hq
                  go_wp2_with fail
                  refine HVV.out.mono ?_
                  rintro e w2 ⟨rfl, b2⟩
                  have B2 := hid (HB.out.trans (b2.mono hsz))
                  have O2 := hid (row_next HO.out b2)
                  clear b2
                  go_wp2
                  go_ret2
                  exact ⟨A8, c8, C, true, rfl, fun _ => HQ.out, O2.out, B2.out⟩
end Go.Proofs.Ythppgaglmgnocaa
