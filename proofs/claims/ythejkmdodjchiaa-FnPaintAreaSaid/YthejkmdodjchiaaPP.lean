/- impl.PaintArea: the walk: a set of points. -/
import Derived.Test.YthejkmdodjchiaaN3
import Derived.Test.YthejkmdodjchiaaMK
import Derived.DeepKeys4
import Derived.WalkArith
namespace Go.Proofs.Ythejkmdodjchiaa
set_option linter.unusedVariables false
set_option linter.unusedSimpArgs false
open Go.RowKit Go.Lib
open Go.Maps (Keyed)

theorem laidP : laidOutB Try.prog = true := by kernel_rfl
theorem wideP : (match Try.prog.underlying 59 with | some (.array _ _) | some (.struct _) => true | _ => false) = true := by rw [Try.underlying59]
theorem lawP : Keyed Try.prog 59 := Keyed.of_law (deep_law_laid laidP (m := 3) (by omega) (of_decide_eq_true (by kernel_rfl)) (by kernel_rfl) wideP)
theorem keyOf_pair {P : Program} {k e : TypeId} {f0 f1 : Field} (hu : P.underlying k = some (.struct #[f0, f1])) (n0 : (f0.name != "_") = true) (n1 : (f1.name != "_") = true) (t0 : f0.type = e) (t1 : f1.type = e) (o0 : f0.offset = 0) (o1 : f1.offset = 1)
    (he : P.underlying e = some (.int .i64)) (h1 : P.keyType k = true) (h2 : P.cellsOf k = 2) (h3 : P.cellsOf e = 1) (h4 : 0 < P.types.size) (x y : Int) (hx : (Lit.int .i64 x).wf = true) (hy : (Lit.int .i64 y).wf = true) :
    keyOf P k (.agg #[.int .i64 x, .int .i64 y]) = some (kp (x, y)) := by
  obtain ⟨m, hm⟩ : ∃ m, P.types.size = m + 1 := ⟨_, (Nat.succ_pred_eq_of_pos h4).symm⟩
  unfold keyOf
  rw [hu]
  simp [h1, Value.formed, hu, h2, hm, Program.keyLits, he, t0, t1, o0, o1, h3, hx, hy, kp, Value.cells, n0, n1]
theorem keyT : Try.prog.keyType 59 = true := by kernel_rfl
theorem cellsP : Try.prog.cellsOf 59 = 2 := by kernel_rfl
theorem cellsI : Try.prog.cellsOf 3 = 1 := by kernel_rfl
theorem sizeP : 0 < Try.prog.types.size := of_decide_eq_true (by kernel_rfl)
theorem keyP (x y : Int) (hx : (Lit.int .i64 x).wf = true) (hy : (Lit.int .i64 y).wf = true) : keyOf Try.prog 59 (.agg #[.int .i64 x, .int .i64 y]) = some (kp (x, y)) :=
  keyOf_pair Try.underlying59 (by decide) (by decide) rfl rfl rfl rfl Try.underlying3 keyT cellsP cellsI sizeP x y hx hy

theorem wfP {x : Int} (h : -1000000000 ≤ x ∧ x ≤ 1000000000) : (Lit.int .i64 x).wf = true := WalkArith.wf_i64 (by omega)
theorem kp_inj {p q : Int × Int} (hp : (-1000000000 ≤ p.1 ∧ p.1 ≤ 1000000000) ∧ -1000000000 ≤ p.2 ∧ p.2 ≤ 1000000000) (hq : (-1000000000 ≤ q.1 ∧ q.1 ≤ 1000000000) ∧ -1000000000 ≤ q.2 ∧ q.2 ≤ 1000000000) (h : kp p = kp q) : p = q := by
  have h1 := keyP p.1 p.2 (wfP hp.1) (wfP hp.2)
  have h2 := keyP q.1 q.2 (wfP hq.1) (wfP hq.2)
  have e1 : kp (p.1, p.2) = kp p := rfl
  have e2 : kp (q.1, q.2) = kp q := rfl
  rw [e1, h] at h1
  rw [e2] at h2
  have := lawP.inj h1 h2
  simp only [Value.agg.injEq] at this
  have t := congrArg Array.toList this
  simp at t
  exact Prod.ext t.1 t.2

theorem paintOk_any (L : List RectD) : paintOk L = (rectsB L 6 && !(L.any fun r => !smallR r)) := by
  unfold paintOk
  congr 1
  rw [List.not_any_eq_all_not]
  congr 1
  funext p
  simp
theorem doneTo_len {L : List RectD} (h : paintOk L = true) (i : Nat) : (doneTo L i).length ≤ 1600 * i := by
  obtain ⟨⟨_, hv⟩, hs⟩ := paintOk_iff.1 h
  unfold doneTo
  have key : ∀ (M : List RectD), (∀ r ∈ M, r ∈ L) → (M.flatMap ptsR).length ≤ 1600 * M.length := by
    intro M
    induction M with
    | nil => intro _; simp
    | cons r M ih =>
      intro hm
      have hr := hm r (by simp)
      have h1 := hs r hr
      rw [List.flatMap_cons, List.length_append, len_pts, List.length_cons]
      have h2 : r.W.toNat * r.H.toNat ≤ 40 * 40 := Nat.mul_le_mul (by omega) (by omega)
      have := ih (fun q hq => hm q (by simp [hq]))
      omega
  have := key (L.take i) (fun r hr => List.mem_of_mem_take hr)
  have hl : (L.take i).length ≤ i := by rw [List.length_take]; omega
  omega
theorem ptsR_bd {L : List RectD} (h : paintOk L = true) {p : Int × Int} (hp : p ∈ L.flatMap ptsR) : (-1000000000 ≤ p.1 ∧ p.1 ≤ 1000000000) ∧ -1000000000 ≤ p.2 ∧ p.2 ≤ 1000000000 := by
  obtain ⟨⟨_, hv⟩, hs⟩ := paintOk_iff.1 h
  obtain ⟨r, hr, hp⟩ := List.mem_flatMap.1 hp
  have h1 := validR_iff.1 (hv r hr)
  have h2 := mem_colsTo.1 (show p ∈ colsTo r r.W.toNat from hp)
  omega

set_option maxHeartbeats 1000000 in
theorem smallPred_any (x : RectD) (w : World) :
    Calls Try.prog 47 #[.agg #[.int .i64 x.X, .int .i64 x.Y, .int .i64 x.W, .int .i64 x.H]] w fun e w' => e = .returned (.bool (!smallR x)) ∧ Below w.heap.size w w' := by
  have K : ∀ o, Below w.heap.size w (w.alloc o) := fun o => below_al (Below.refl _ _) rfl _
  by_cases h1 : 40 < x.W
  · go_enter Try.func47, Try.ntmps47
    go_wp2
    go_ret
    exact ⟨by simp [smallR, h1], K _⟩
  · by_cases h2 : 40 < x.H
    · go_enter Try.func47, Try.ntmps47
      go_wp2
      go_ret
      exact ⟨by simp [smallR, h1, h2], K _⟩
    · go_enter Try.func47, Try.ntmps47
      go_wp2
      go_ret
      exact ⟨by simp [smallR, h1, h2], K _⟩

/-- The set behind these points, in the block that was made at w. -/
def PRelP (w : World) (pts : List (Int × Int)) (wr : World) : Prop :=
  wr.ownsMap (H := Unit) Try.prog 59 (plainElem Try.prog 4) w.heap.size pts.length (setP pts) ∧ Below w.heap.size w wr
theorem PRelP.put {w wr w1 : World} {pts pts' : List (Int × Int)} {p : Int × Int} (h : PRelP w pts wr) (ho : w1.ownsMap (H := Unit) Try.prog 59 (plainElem Try.prog 4) w.heap.size (pts.length + 1) ((setP pts).put (kp p) (.lit (.bool true)))) (hg : wr.grownBy w1 (some w.heap.size)) (hp : pts' = pts ++ [p]) : PRelP w pts' w1 := by
  subst hp
  refine ⟨?_, h.2.grown hg h.2.size (fun g hg => by injection hg with hg; omega)⟩
  rw [setP_snoc, List.length_append]
  exact ho
theorem PRelP.al {w wr : World} {pts : List (Int × Int)} (h : PRelP w pts wr) (o : Obj) : PRelP w pts (wr.alloc o) := ⟨h.1.alloc o, h.2.alloc h.2.size o⟩

set_option maxHeartbeats 4000000 in
theorem paintArea_any (A : Option Addr) (L : List RectD) (c : Nat) (w : World) (hL : L.length ≤ 1048576) (h : Arr w w.heap.size 4 encRect A L) :
    Calls Try.prog 16 #[.slice A L.length c] w fun e w' => e = .returned (.int .i64 (areaV L)) ∧ Below w.heap.size w w' := by
  have hk := rectsOk_any A L c 6 w (by omega) h
  have hs := fun W hW => containsFuncRect_any 47 #[] (fun r => !smallR r) (enters_of Try.func47 (by kernel_rfl) rfl) A L c W (by omega) hW (fun W' x _ _ => smallPred_any x W')
  have H := hid h
  have hO := paintOk_any L
  have hV : areaV L = if paintOk L then (areaM L : Int) else -1 := rfl
  clear h
  cases ev : rectsB L 6
  · rw [ev] at hk hO
    have e0 : areaV L = -1 := by rw [hV, hO]; rfl
    rw [e0]
    have HK := hid hk
    clear hk hs ev hO hV e0
    go_enter Try.func16, Try.ntmps16
    go_wp2_with fail
    refine HK.out.mono ?_
    rintro e w1 ⟨rfl, b1⟩
    have B1 := hid b1
    clear b1
    go_wp2
    go_ret
    exact ⟨rfl, B1.out⟩
  · rw [ev] at hk hO
    have HK := hid hk
    cases es : L.any fun r => !smallR r
    · rw [es] at hs hO
      have hok : paintOk L = true := by rw [hO]; rfl
      have e0 : areaV L = (areaM L : Int) := by rw [hV, hok]; rfl
      rw [e0]
      have hab := area_bd hok
      have HLEN := hid (fun i => doneTo_len hok i)
      have HINJ := hid (fun (p q : Int × Int) (hp : p ∈ L.flatMap ptsR) (hq : q ∈ L.flatMap ptsR) (e : kp p = kp q) => kp_inj (ptsR_bd hok hp) (ptsR_bd hok hq) e)
      obtain ⟨⟨hl6, hval⟩, hsm⟩ := paintOk_iff.1 hok
      have HAREA := hid (fun h => setP_area (H := Unit) (L := L) (sides_of hval) h)
      have HVAL := hid hval
      have HSM := hid hsm
      have HS := hid hs
      have hmm := @run_makeMap Try.prog
      have HMM := hid hmm
      clear hk hs ev es hO hV e0 hok hval hsm
      generalize areaM L = R at *
      go_enter Try.func16, Try.ntmps16
      go_wp2_with fail
      refine HK.out.mono ?_
      rintro e w1 ⟨rfl, b1⟩
      have B1 := hid b1
      have H1 := hid (H.out.next b1)
      clear b1
      go_wp2_with fail
      refine (HS.out _ H1.out).mono ?_
      rintro e w2 ⟨rfl, b2⟩
      have B2 := hid (chain B1.out b2)
      have H2 := hid (H1.out.next b2)
      have R0 : ∀ o, o = Obj.map #[] 0 → Aside (PRelP w2 (doneTo L 0) (w2.alloc o)) := fun o ho => by
        subst ho
        exact ⟨World.ownsMap_made w2 Try.prog 59 _, (Below.refl _ _).alloc (Nat.le_refl _) _⟩
      have HR0 := hid R0
      clear b2 R0
      go_wp2
      go_loopg [18] L.length (fun gg s18 wr => ∃ i : Nat, i ≤ L.length ∧ L.length - i ≤ gg ∧ s18 = .int .i64 i ∧ Aside (PRelP w2 (doneTo L i) wr))
      case atStart => exact ⟨0, Nat.zero_le _, by omega, rfl, HR0.out _ rfl⟩
      case round =>
        obtain ⟨i, hi, hgg, rfl, R1⟩ := hrel
        clear HR0
        by_cases hlt : i < L.length
        · obtain ⟨p, off, x, rfl, hp, hx, d1, d2, d3, d4⟩ := (H2.out.below R1.out.2).atRect hlt
          obtain ⟨⟨a1, a2⟩, ⟨a3, a4⟩, ⟨a5, _⟩, a7, _⟩ := validR_iff.1 (HVAL.out x (List.mem_of_getElem? hx))
          obtain ⟨a6, a8⟩ := HSM.out x (List.mem_of_getElem? hx)
          have HDN := hid (doneTo_next hx)
          have hdl := HLEN.out i
          have i1 : (0 : Int) ≤ (i : Int) := by omega
          have i2 : (i : Int) < (L.length : Int) := by omega
          have hlb : w2.heap.size < wr.heap.size := R1.out.1.lt
          obtain ⟨g, hg⟩ : ∃ g, g = wr.heap.size := ⟨_, rfl⟩
          have RX : ∀ o, o = Obj.cells #[.int .i64 x.X, .int .i64 x.Y, .int .i64 x.W, .int .i64 x.H] 27 → Aside (PRelP w2 (doneTo L i ++ colsTo x 0) (wr.alloc o) ∧ (wr.alloc o).heap[g]? = some (.cells #[.int .i64 x.X, .int .i64 x.Y, .int .i64 x.W, .int .i64 x.H] 27 (0, 0))) := fun o ho => by
            subst ho
            refine ⟨?_, by rw [hg]; exact heap_alloc_new wr _⟩
            rw [show colsTo x 0 = [] from rfl, List.append_nil]
            exact R1.out.al _
          have HRX := hid RX
          have hgne : w2.heap.size ≠ g := by omega
          clear hx RX R1
          go_wp2
          rw [← hg]
          clear hg hlb
          go_loopg [24] x.W.toNat (fun gg s24 wq => ∃ kx : Nat, kx ≤ x.W.toNat ∧ x.W.toNat - kx ≤ gg ∧ s24 = .int .i64 kx ∧ Aside (PRelP w2 (doneTo L i ++ colsTo x kx) wq ∧ wq.heap[g]? = some (.cells #[.int .i64 x.X, .int .i64 x.Y, .int .i64 x.W, .int .i64 x.H] 27 (0, 0))))
          case atStart => exact ⟨0, Nat.zero_le _, by omega, rfl, HRX.out _ rfl⟩
          case round =>
            obtain ⟨kx, hkx, hgx, rfl, R2⟩ := hrel
            clear HRX
            by_cases hltx : (kx : Int) < x.W
            · obtain ⟨⟨k0, k1, k2, k3⟩, -⟩ := cell4 R2.out.2
              have R2' : Aside (PRelP w2 (doneTo L i ++ colsTo x kx ++ colTo x kx 0) wr ∧ wr.heap[g]? = some (.cells #[.int .i64 x.X, .int .i64 x.Y, .int .i64 x.W, .int .i64 x.H] 27 (0, 0))) := by
                refine ⟨?_, R2.out.2⟩
                rw [show colTo x kx 0 = [] from rfl, List.append_nil]
                exact R2.out.1
              have hcl := len_colsTo x kx
              have hcb : kx * x.H.toNat ≤ 40 * 40 := Nat.mul_le_mul (by omega) (by omega)
              clear R2
              go_wp2
              go_loopg [29] x.H.toNat (fun gg s29 wr => ∃ ky : Nat, ky ≤ x.H.toNat ∧ x.H.toNat - ky ≤ gg ∧ s29 = .int .i64 ky ∧ Aside (PRelP w2 (doneTo L i ++ colsTo x kx ++ colTo x kx ky) wr ∧ wr.heap[g]? = some (.cells #[.int .i64 x.X, .int .i64 x.Y, .int .i64 x.W, .int .i64 x.H] 27 (0, 0))))
              case atStart => exact ⟨0, Nat.zero_le _, by omega, rfl, R2'⟩
              case round =>
                obtain ⟨ky, hky, hgy, rfl, R3⟩ := hrel
                clear R2'
                obtain ⟨⟨m0, m1, m2, m3⟩, -⟩ := cell4 R3.out.2
                by_cases hlty : (ky : Int) < x.H
                · have hKY := hid (keyP (x.X + (kx : Int)) (x.Y + (ky : Int)) (wfP (by omega)) (wfP (by omega)))
                  have hpl : (doneTo L i ++ colsTo x kx ++ colTo x kx ky).length < maxLen := by
                    rw [List.length_append, List.length_append, hcl, len_colTo]
                    simp only [maxLen]
                    omega
                  have HNX : Aside (doneTo L i ++ colsTo x kx ++ colTo x kx (ky + 1) = (doneTo L i ++ colsTo x kx ++ colTo x kx ky) ++ [(x.X + (kx : Int), x.Y + (ky : Int))]) := by
                    show _ = _
                    rw [colTo_next, List.append_assoc _ (colTo x kx ky)]
                  go_wp2_with (at_mapUpdate; refine wpList_mapUpdate_own _ rfl _ _ _ 57 rfl 59 4 lawP Try.underlying57 (plainElem (H := Unit) Try.prog 4) w2.heap.size _ _ rfl R3.out.1.1 hpl _ _ _ rfl rfl hKY.out _ [] (plainElem_bool Try.underlying4 true) ?_; intro w5 own5 gr5)
                  have F : Aside (PRelP w2 (doneTo L i ++ colsTo x kx ++ colTo x kx (ky + 1)) w5 ∧ w5.heap[g]? = some (.cells #[.int .i64 x.X, .int .i64 x.Y, .int .i64 x.W, .int .i64 x.H] 27 (0, 0))) :=
                    ⟨R3.out.1.put own5 gr5 HNX.out, (gr5.block g (Array.getElem?_eq_some_iff.1 R3.out.2).1 (fun e => by injection e with e; exact hgne e.symm)).trans R3.out.2⟩
                  clear own5 gr5
                  go_wp2
                  go_roundg (x.H.toNat - (ky + 1))
                  case measure => omega
                  case rel => exact ⟨ky + 1, by omega, by omega, by go_num, F⟩
                · have hke : ky = x.H.toNat := by omega
                  have F : Aside (PRelP w2 (doneTo L i ++ colsTo x (kx + 1)) wr ∧ wr.heap[g]? = some (.cells #[.int .i64 x.X, .int .i64 x.Y, .int .i64 x.W, .int .i64 x.H] 27 (0, 0))) := by
                    refine ⟨?_, R3.out.2⟩
                    rw [colsTo_next, ← List.append_assoc, ← hke]
                    exact R3.out.1
                  clear R3
                  go_wp2
                  go_roundg (x.W.toNat - (kx + 1))
                  case measure => omega
                  case rel => exact ⟨kx + 1, by omega, by omega, by go_num, F⟩
            · have hke : kx = x.W.toNat := by omega
              have F : Aside (PRelP w2 (doneTo L (i + 1)) wr) := by
                show PRelP _ _ _
                rw [HDN.out]
                have := R2.out.1
                rw [hke] at this
                exact this
              clear R2
              go_wp2
              go_roundg (L.length - (i + 1))
              case measure => omega
              case rel => exact ⟨i + 1, by omega, by omega, by go_num, F⟩
        · have hil : i = L.length := by omega
          have F := R1.out
          rw [hil, doneTo_all] at F
          have HF := hid F
          have hsz : Maps.size (setP (H := Unit) (L.flatMap ptsR)) = R := HAREA.out HINJ.out
          have HSZ := hid hsz
          clear F R1 hsz
          go_wp2_with (at_len; refine wpList_len_own _ rfl _ 57 rfl 59 4 Try.underlying57 _ w2.heap.size _ _ rfl HF.out.1 ?_)
          go_ret
          exact ⟨by rw [HSZ.out]; rfl, chain B2.out HF.out.2⟩
    · rw [es] at hs hO
      have e0 : areaV L = -1 := by rw [hV, hO]; rfl
      rw [e0]
      have HS := hid hs
      clear hk hs ev es hO hV e0
      go_enter Try.func16, Try.ntmps16
      go_wp2_with fail
      refine HK.out.mono ?_
      rintro e w1 ⟨rfl, b1⟩
      have B1 := hid b1
      have H1 := hid (H.out.next b1)
      clear b1
      go_wp2_with fail
      refine (HS.out _ H1.out).mono ?_
      rintro e w2 ⟨rfl, b2⟩
      have B2 := hid (chain B1.out b2)
      clear b2
      go_wp2
      go_ret
      exact ⟨rfl, B2.out⟩
end Go.Proofs.Ythejkmdodjchiaa
