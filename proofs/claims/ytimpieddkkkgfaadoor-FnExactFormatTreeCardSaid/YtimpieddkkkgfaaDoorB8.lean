/- The reference's trees: kids, depth, inOrder, around, count. -/
import Derived.Test.YtimpieddkkkgfaaDoorB7
namespace Go.Proofs.YtimpieddkkkgfaaDoor
set_option linter.unusedVariables false
set_option linter.unusedSimpArgs false
open Go.RowKit Go.Lib

/-- 'append(out, x)', x built on the spot, at longer lists. -/
theorem wpList_pushB {P : Program} {t e : TypeId} {size bytes : Nat} {W : World} {ops : Array Oper} {rest : List Oper} {o : Oper} {a : Act} {Q : Exit → Act → World → Prop} (E : Elt P t e size bytes) (hgd : o.guard = none) (s x : Operand)
    (ho : o.op = .call { callee := .builtin .append, args := #[s, x], argTypes := #[t, t] })
    (base : Nat) (v : Value) (n : Nat) (xs : List Value) (hown : W.ownsRow base e size v n xs) (hn : n ≤ 2000000) (hbase : base ≤ W.heap.size) (g : Nat) (cs : Array Value)
    (hs : a.eval s = v) (hx : a.eval x = .slice (some ⟨g, 0, none⟩) 1 1) (hg : g = W.heap.size) (hcs : cs.size = size) (h1 : ∀ u ∈ cs.toList, u.oneCell' = true)
    (h : ∀ A c w', w'.ownsRow base e size (.slice A (n + 1) c) (n + 1) (xs ++ cs.toList) → W.grownBy w' v.ownBlock → (∀ q, (Value.slice A (n + 1) c).ownBlock = some q → v.ownBlock = some q ∨ W.heap.size ≤ q) → wpList P ops Q rest (a.put o.dst (.slice A (n + 1) c)) w') :
    wpList P ops Q (o :: rest) a (W.alloc (.cells cs e)) := by
  obtain ⟨i, z, ht, hi, hz, hsize, hby, hzs, hsz, hbb⟩ := E.ex
  subst hg
  refine wpList_append_own_at _ hgd s x t ho base e i z size bytes ht hi hz hsize hby hzs hsz v n xs hs (hown.alloc _) ⟨W.heap.size, 0, none⟩ 1 1 cs.toList hx (by simpa using hcs) ?_ h1 (by simp only [maxLen]; omega) ?_ (by simp; omega) ?_
  · intro j u hu
    rw [Addr.add_lit, cell_of_row _ W.heap.size _ cs e (0, 0) (heap_alloc_new W _)]
    simpa using hu
  · exact Nat.le_trans (Nat.mul_le_mul_left _ hbb) (by omega)
  · intro v' w' ho' hg' _ hat
    obtain ⟨A, c, rfl, _, _⟩ := row_form ho'
    refine h A c w' ho' ⟨hg'.os, hg'.tape, hg'.output, ?_, ?_⟩ ?_
    · have := hg'.size; simp at this; omega
    · intro k hk hne
      exact (hg'.block k (by simp; omega) hne).trans (Below.heap_alloc W _ k hk)
    · intro q hq
      rcases hat with e | e
      · exact .inl (e.symm.trans hq)
      · rw [e] at hq
        injection hq with hq
        simp at hq
        exact .inr (by omega)

set_option maxHeartbeats 4000000 in
theorem kidsS_any (A : Option Addr) (T : List BoxD) (c at_ : Nat) (w : World) (hL : T.length ≤ 1048576) (ha : at_ < T.length) (hd : Desc T (at_ + 1)) (h : Arr w w.heap.size 9 encBox A T) :
    Calls Tryd.prog 21 #[.slice A T.length c, .int .i64 at_] w (Gives 1 encI (asI (kidsN T T.length at_)) w) := by
  have H := hid h
  have R0 : Aside (KidsRel w T at_ (at_ + 1) (some ⟨w.heap.size, 0, none⟩) 0 0 (w.alloc (.cells #[] 3))) := by
    refine ⟨?_, ?_, below_al (Below.refl _ _) rfl _⟩
    · rw [kidsN_low hd _ (Nat.le_refl _) (Nat.le_refl _)]; rfl
    · rw [kidsN_low hd _ (Nat.le_refl _) (Nat.le_refl _)]
      exact World.ownsRow_made w #[] 0 (Nat.le_refl _) (by simp [maxLen]) rfl
  clear h hd
  go_enter Tryd.func21, Tryd.ntmps21
  go_wp2
  go_loopg [5, 6] T.length (fun gg s5 s6 wr => ∃ (i n5 c5 : Nat) (A5 : Option Addr), i ≤ T.length ∧ T.length - i ≤ gg ∧ s5 = .slice A5 n5 c5 ∧ s6 = .int .i64 i ∧ Aside (KidsRel w T at_ i A5 n5 c5 wr))
  case atStart => exact ⟨at_ + 1, 0, 0, _, by omega, by omega, rfl, by go_num, R0⟩
  case round =>
    obtain ⟨i, n5, c5, A5, hi, hgg, rfl, rfl, R⟩ := hrel
    clear R0
    obtain ⟨hn5, hown, hbl⟩ := R.out
    have hle := kids_len_le T i at_
    rw [← hn5] at hle
    have HN := hid hn5
    have HO := hid hown
    have HB := hid hbl
    have hsz := hbl.size
    have hn : n5 ≤ 2000000 := by omega
    clear R hn5 hown hbl
    by_cases hlt : i < T.length
    · obtain ⟨b, off, x, rfl, hb, hx, d1, -⟩ := (H.out.below HB.out).atBox hlt
      have hnext := kidsN_next T i at_
      rw [par_of hx] at hnext
      have i1 : (0 : Int) ≤ (i : Int) := by omega
      have i2 : (i : Int) < (T.length : Int) := by omega
      clear hx
      by_cases hp : x.Parent = (at_ : Int)
      · have hb2 : (x.Parent == (at_ : Int)) = true := by rw [beq_iff_eq]; exact hp
        rw [hb2, if_pos rfl] at hnext
        have HNX := hid hnext
        clear hnext hp
        go_wp2_with (at_builtin; refine wpList_pushB eltIntB rfl (.tmp 23) (.tmp 25) rfl w.heap.size _ n5 _ HO.out hn hsz _ _ rfl rfl rfl rfl (oc1 _) ?_; intro A8 c8 w8 own8 gr8 at8; have O8 := hid own8; have HB8 := hid (HB.out.grown gr8 hsz (fun q hq => (HO.out.lt q hq).1)); clear own8 gr8 at8)
        go_roundg (T.length - (i + 1))
        case measure => omega
        case rel => exact ⟨i + 1, n5 + 1, c8, A8, by omega, by omega, rfl, by go_num, by rw [HNX.out, HN.out]; simp, by rw [HNX.out, flat_asI_snoc]; exact O8.out, HB8.out⟩
      · have hb2 : (x.Parent == (at_ : Int)) = false := by rw [beq_eq_false_iff_ne]; exact hp
        rw [hb2, if_neg (by simp), List.append_nil] at hnext
        have HNX := hid hnext
        clear hnext hp
        go_wp2
        go_roundg (T.length - (i + 1))
        case measure => omega
        case rel => exact ⟨i + 1, n5, c5, A5, by omega, by omega, rfl, by go_num, by rw [HNX.out]; exact HN.out, by rw [HNX.out]; exact HO.out, HB.out⟩
    · have hil : i = T.length := by omega
      subst hil
      obtain ⟨hic1, hic2⟩ := slice_le HO.out
      go_wp2
      go_ret
      have hn' : n5 = (asI (kidsN T T.length at_)).length := by rw [asI_len]; exact HN.out
      refine ⟨A5, c5, by rw [← hn']; rfl, by rw [← hn']; exact hic1, by omega, ?_, HB.out⟩
      exact OwnA.of_rowN (enc := encI) (k := 1) (fun _ => rfl) hn' rfl HO.out

set_option maxHeartbeats 2000000 in
theorem depthS_any (A : Option Addr) (T : List BoxD) (c at_ : Nat) (w : World) (hL : T.length ≤ 1048576) (ha : at_ < T.length) (hd : Desc T (at_ + 1)) (h : Arr w w.heap.size 9 encBox A T) :
    Calls Tryd.prog 10 #[.slice A T.length c, .int .i64 at_] w fun e w' => e = .returned (.int .i64 ((up T at_).length - 1)) ∧ w = w' := by
  have H := hid h
  have HD := hid hd
  have hlen := up_len_le hd at_ (by omega)
  have hpos := up_len_pos T at_
  generalize hu : (up T at_).length = u at *
  have HU := hid hu
  clear h hd hu
  go_enter Tryd.func10, Tryd.ntmps10
  go_wp2
  go_loop [1, 5] (fun s1 s5 => ∃ q n : Nat, q ≤ at_ ∧ n ≤ 1048576 ∧ s1 = .int .i64 q ∧ s5 = .int .i64 n ∧ Aside (n + (up T q).length = u)) (fun s1 _ => (intOf s1).toNat)
  case atStart => exact ⟨at_, 0, Nat.le_refl _, by omega, rfl, rfl, (show _ = _ by rw [HU.out]; omega)⟩
  case round =>
    obtain ⟨q, n, hq, hn, rfl, rfl, R⟩ := hrel
    obtain ⟨b, off, x, rfl, hb, hx, d1, -⟩ := H.out.atBox (show q < T.length by omega)
    have hxp := par_of hx
    have i1 : (0 : Int) ≤ (q : Int) := by omega
    have i2 : (q : Int) < (T.length : Int) := by omega
    have i3 : q < T.length := by omega
    have hqp := up_len_pos T q
    have hun : n + 1 ≤ u := by have := R.out; omega
    clear hx
    by_cases hp : 0 ≤ x.Parent
    · have hq0 : 0 < q := by
        rcases Nat.eq_zero_or_pos q with rfl | h0
        · have := (HD.out 0 (by omega)).1 rfl; omega
        · exact h0
      have hlt := par_lt HD.out (show q < at_ + 1 by omega) hq0
      have hnx := up_next HD.out (show q < at_ + 1 by omega) hq0
      rw [hxp] at hlt hnx
      obtain ⟨p, hpp⟩ : ∃ p : Nat, x.Parent = p := ⟨x.Parent.toNat, by omega⟩
      rw [hpp] at d1 hlt hnx
      rw [Int.toNat_natCast] at hlt hnx
      have HNX := hid hnx
      clear hp hpp hxp hnx
      go_wp2
      go_round
      case measure => simp [intOf]; omega
      case rel => exact ⟨p, n + 1, by omega, by omega, rfl, by go_num, (show _ = _ by have := R.out; rw [HNX.out, List.length_cons] at this; omega)⟩
    · have hq0 : q = 0 := by
        rcases Nat.eq_zero_or_pos q with h0 | h0
        · exact h0
        · have := (HD.out q (by omega)).2 h0; omega
      have hnu : (n : Int) = (u : Int) - 1 := by
        have := R.out
        rw [hq0, up_zero HD.out (by omega)] at this
        simp at this
        omega
      have HNU := hid hnu
      clear hq0 hnu hxp R
      go_wp2
      go_ret
      exact ⟨by rw [HNU.out]; rfl, rfl⟩

/-- Whether the boxes in a box follow it directly. -/
def ordB (T : List BoxD) : Bool := (List.range T.length).all fun i => i == 0 || (up T (i - 1)).contains (par T i).toNat
theorem ordB_iff {T : List BoxD} : ordB T = true ↔ ∀ i, 0 < i → i < T.length → (par T i).toNat ∈ up T (i - 1) := by
  unfold ordB
  simp only [List.all_eq_true, List.mem_range, Bool.or_eq_true, beq_iff_eq, List.contains_iff_mem]
  constructor
  · intro h i h0 hi
    rcases h i hi with e | e
    · omega
    · exact e
  · intro h i hi
    rcases Nat.eq_zero_or_pos i with e | e
    · exact .inl e
    · exact .inr (h i e hi)

set_option maxHeartbeats 4000000 in
theorem inOrder_any (A : Option Addr) (T : List BoxD) (c : Nat) (w : World) (hL : T.length ≤ 1048576) (hd : Desc T T.length) (h : Arr w w.heap.size 9 encBox A T) :
    Calls Tryd.prog 22 #[.slice A T.length c] w fun e w' => e = .returned (.bool (ordB T)) ∧ w = w' := by
  have H := hid h
  have HD := hid hd
  have NO := hid (fun (h : ¬ _) => (Bool.eq_false_iff (b := ordB T)).2 (fun e => h (ordB_iff.1 e)))
  have YES := hid (fun h => (ordB_iff (T := T)).2 h)
  clear h hd
  generalize ordB T = res at *
  go_enter Tryd.func22, Tryd.ntmps22
  go_wp2
  go_loop [3] (fun s3 => ∃ i : Nat, 1 ≤ i ∧ i ≤ T.length + 1 ∧ s3 = .int .i64 i ∧ Aside (∀ j, 0 < j → j < i → j < T.length → (par T j).toNat ∈ up T (j - 1))) (fun s3 => T.length + 1 - (intOf s3).toNat)
  case atStart => exact ⟨1, Nat.le_refl _, by omega, rfl, fun j h0 hj => by omega⟩
  case round =>
    obtain ⟨i, hi1, hi2, rfl, R⟩ := hrel
    by_cases hlt : i < T.length
    · obtain ⟨b, off, x, hA, hb, hx, d1, -⟩ := H.out.atBox hlt
      have HXP := hid (par_of hx)
      have hpb := (HD.out i hlt).2 (by omega)
      rw [HXP.out] at hpb
      have i1 : (0 : Int) ≤ (i : Int) := by omega
      have i2 : (i : Int) < (T.length : Int) := by omega
      subst hA
      clear hx
      go_wp2
      go_loop [4] (fun s4 => ∃ p : Int, -1 ≤ p ∧ p < (i : Int) ∧ s4 = .int .i64 p ∧ Aside ((par T i).toNat ∈ up T (i - 1) ↔ (par T i).toNat ∈ restUp T p)) (fun s4 => (intOf s4 + 1).toNat)
      case atStart => exact ⟨(i : Int) - 1, by omega, by omega, rfl, (show _ ↔ _ by unfold restUp; rw [if_pos (by omega), show ((i : Int) - 1).toNat = i - 1 by omega])⟩
      case round =>
        obtain ⟨p, hp1, hp2, rfl, S⟩ := hrel
        by_cases hp0 : 0 ≤ p
        · obtain ⟨q, rfl⟩ : ∃ q : Nat, p = q := ⟨p.toNat, by omega⟩
          obtain ⟨y, hy, -, e1, -⟩ := H.out.litBox (show q < T.length by omega)
          have HYP := hid (par_of hy)
          have hyb := par_bd HD.out (show q < T.length by omega)
          rw [HYP.out] at hyb
          obtain ⟨hy1, hy2⟩ := hyb
          have j1 : (q : Int) < (T.length : Int) := by omega
          have j2 : q < T.length := by omega
          clear hy
          by_cases hqp : (q : Int) = x.Parent
          · have HIN : Hid ((par T i).toNat ∈ up T (i - 1)) := hid (by
              rw [S.out]
              unfold restUp
              rw [if_pos (by omega), HXP.out, ← hqp]
              exact up_self T _)
            have hne : ((q : Int) != x.Parent) = false := by rw [hqp]; simp
            have hn0 : ¬ (q : Int) < 0 := by omega
            clear hqp
            go_wp2
            go_round
            case measure => simp [intOf]; omega
            case rel =>
              refine ⟨i + 1, by omega, by omega, by go_num, (show Aside _ from fun j j0 hj hjl => ?_)⟩
              by_cases e : j = i
              · subst e; exact HIN.out
              · exact R.out j j0 (by omega) hjl
          · have hne : ((q : Int) != x.Parent) = true := by rw [bne_iff_ne]; exact hqp
            have S2 : Aside ((par T i).toNat ∈ up T (i - 1) ↔ (par T i).toNat ∈ restUp T y.Parent) := by
              show _ ↔ _
              rw [S.out, restUp_step HD.out (show q < T.length by omega), HYP.out, List.mem_cons]
              constructor
              · rintro (e | e)
                · rw [HXP.out] at e; exact absurd (by omega) hqp
                · exact e
              · exact .inr
            clear hqp
            go_wp2
            go_round
            case measure => simp [intOf]; omega
            case rel => exact ⟨y.Parent, by omega, by omega, rfl, S2⟩
        · have hpn : p < 0 := by omega
          have hr := NO.out (fun h => by
            have := S.out.1 (h i (by omega) hlt)
            rw [restUp_end hpn] at this
            simp at this)
          subst hr
          clear NO YES
          go_wp2
          go_ret
          exact ⟨rfl, rfl⟩
    · have hr := YES.out (fun j j0 hj => R.out j j0 (by omega) hj)
      subst hr
      go_wp2
      go_ret
      exact ⟨rfl, rfl⟩

theorem aroundB_par {T : List BoxD} {n at_ i : Nat} (h : Desc T n) (hi : i < n) (hlt : at_ < i) : aroundB T at_ (par T i).toNat = aroundB T at_ i := by
  rw [Bool.eq_iff_iff, aroundB_iff, aroundB_iff, up_step h hi (show at_ ≠ i by omega)]
  exact ⟨fun h => ⟨by omega, h⟩, fun h => h.2⟩
theorem aroundB_end {T : List BoxD} {n at_ i : Nat} (h : Desc T n) (hi : i < n) (hle : i ≤ at_) : aroundB T at_ i = decide (i = at_) := by
  rw [Bool.eq_iff_iff, aroundB_iff, decide_eq_true_eq]
  constructor
  · intro hm; have := up_le h i hi _ hm; omega
  · rintro rfl; exact up_self T _

end Go.Proofs.YtimpieddkkkgfaaDoor
