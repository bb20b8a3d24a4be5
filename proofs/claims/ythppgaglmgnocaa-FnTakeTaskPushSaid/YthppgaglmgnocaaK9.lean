/- The generators of queues: someTasks, anyTasks, and the laws'. -/
import Derived.Test.YthppgaglmgnocaaK8
namespace Go.Proofs.Ythppgaglmgnocaa
set_option linter.unusedVariables false
set_option linter.unusedSimpArgs false
open Go.RowKit Go.Lib

/-- What a generator of a queue leaves: a row. -/
def QueueGo (w : World) (r : Nat) (A : Option Addr) (cap : Nat) (bs : List Int) (p k m : Nat) (e : Ending) (w' : World) : Prop :=
  ∃ (A' : Option Addr) (c : Nat) (L : List TaskD), e = .returned (.slice A' L.length c) ∧ L.length ≤ m ∧ w'.ownsRow w.heap.size 31 3 (.slice A' L.length c) L.length (L.flatMap encTask) ∧ RGo w r A cap bs p k w'

/-- The loop's relation. -/
def SRel (w : World) (r : Nat) (A : Option Addr) (cap : Nat) (bs : List Int) (p k : Nat) (A3 : Option Addr) (c3 : Nat) (L : List TaskD) (wr : World) : Prop :=
  ∃ p', validT L = true ∧ wr.ownsRow w.heap.size 31 3 (.slice A3 L.length c3) L.length (L.flatMap encTask) ∧ Rd wr r A cap bs p' ∧ p' ≤ p + 1 + 3 * k ∧ w.grownBy wr (some r)

theorem grown_of_below {a b c : World} {row : Option Nat} (h : a.grownBy b row) (k : Below b.heap.size b c) : a.grownBy c row :=
  grown_new h (row' := none) ⟨k.os, k.tape, k.output, k.size, fun i hi _ => k.block i hi⟩ (fun g hg => by cases hg)
theorem rd_of_below {b c : World} {r : Nat} {A : Option Addr} {cap : Nat} {bs : List Int} {p : Nat} (h : Rd b r A cap bs p) (k : Below b.heap.size b c) : Rd c r A cap bs p :=
  h.kept (row := none) ⟨k.os, k.tape, k.output, k.size, fun i hi _ => k.block i hi⟩ (fun g hg => by cases hg)
theorem row_arr {w : World} {base : Nat} {A : Option Addr} {c : Nat} {L : List TaskD} (h : w.ownsRow base 31 3 (.slice A L.length c) L.length (L.flatMap encTask)) : Arr w w.heap.size 3 encTask A L :=
  (OwnA.of_row (enc := encTask) (k := 3) (fun _ => rfl) h).arr

set_option maxHeartbeats 4000000 in
theorem someTasks_any (r : Nat) (A : Option Addr) (cap : Nat) (bs : List Int) (p : Nat) (w : World) (h : Rd w r A cap bs p) (hp : p ≤ 1000) :
    Calls Try.prog 53 #[.pointer (some ⟨r, 0, none⟩)] w (QueueGo w r A cap bs p 50 10) := by
  have hrlt := h.lt
  have H := hid h
  clear h
  go_enter Try.func53, Try.ntmps53
  go_wp2_with fail
  (with_reducible refine (oneLit r A cap bs p _ 7 [4, 6, 8, 2, 1, 0, 12] _ _ (H.out.alloc _) (by omega) ?_ ?_ rfl (by omega) (by omega)).mono ?_)
  · simp
  · rfl
  rintro e w1 ⟨x, rfl, hx, hr1⟩
  have hx' : ∃ n : Nat, x = n ∧ n ≤ 12 := by
    simp only [List.mem_cons, List.not_mem_nil, or_false] at hx
    exact ⟨x.toNat, by omega, by omega⟩
  obtain ⟨n0, rfl, hn0⟩ := hx'
  have R0 : Aside (SRel w r A cap bs p 0 (some ⟨w.heap.size, 0, none⟩) 0 [] w1) :=
    ⟨p + 1, by decide, row_far (World.ownsRow_made w #[] 0 (Nat.le_refl _) (by simp [maxLen]) rfl) hr1.gr hrlt, hr1.rd, by omega, grown_trans (World.grownBy_alloc w _ _) hr1.gr⟩
  clear hx hr1
  go_wp2
  go_loopg [3, 4] 12 (fun gg s3 s4 wr => ∃ (k n c3 : Nat) (A3 : Option Addr) (L : List TaskD), n ≤ gg ∧ k + n ≤ 12 ∧ L.length ≤ 10 ∧ s3 = .slice A3 L.length c3 ∧ s4 = .int .i64 n ∧ Aside (SRel w r A cap bs p k A3 c3 L wr))
  case atStart => exact ⟨0, n0, _, _, [], hn0, by omega, by simp, rfl, rfl, R0⟩
  case round =>
    obtain ⟨k, n, c3, A3, L, hng, hkn, hL10, rfl, rfl, R⟩ := hrel
    clear R0
    obtain ⟨p', hv, hown, hrd, hp', hgr⟩ := R.out
    have HV := hid hv
    have HO := hid hown
    have RD := hid hrd
    have GR := hid hgr
    clear R hv hown hrd hgr
    by_cases hpos : 0 < n
    · go_wp2_with fail
      (with_reducible refine (pick_any r A cap bs p' _ _ RD.out (by omega) (by omega)).mono ?_)
      rintro e w2 ⟨y, rfl, hy, hr2⟩
      have HR2 := hid hr2
      clear hr2 hy
      go_wp2_with fail
      (with_reducible refine (oneLit r A cap bs (p' + 1) _ 6 [5, 0, 10, 50, 20, 7] _ _ HR2.out.rd (by omega) ?_ ?_ rfl (by omega) (by omega)).mono ?_)
      · rfl
      · rfl
      rintro e w3 ⟨z, rfl, hz, hr3⟩
      have O3 := hid (row_far (row_far HO.out HR2.out.gr hrlt) hr3.gr hrlt)
      have G3 := hid (grown_trans (grown_trans GR.out HR2.out.gr) hr3.gr)
      have R3 := hid hr3.rd
      have hs3 : w.heap.size ≤ w3.heap.size := G3.out.size
      clear hr3 hz
      have hc4 := pushS_any A3 L c3 y z w3 (by omega) (row_arr O3.out)
      have HC4 := hid hc4
      clear hc4
      go_wp2_with fail
      refine HC4.out.mono ?_
      rintro e w4 ⟨A4, c4, M, ok, rfl, hok, o4, b4⟩
      have O34 := hid (row_next O3.out b4)
      have O4 := hid (row_less o4 hs3)
      have R4 := hid (rd_of_below R3.out b4)
      have G4 := hid (grown_of_below G3.out b4)
      have HOK := hid hok
      clear b4 o4 hok
      have FIN : ∀ (L' : List TaskD) (A' : Option Addr) (c' p'' : Nat) (W : World), validT L' = true → W.ownsRow w.heap.size 31 3 (.slice A' L'.length c') L'.length (L'.flatMap encTask) → Rd W r A cap bs p'' → p'' ≤ p' + 3 → w.grownBy W (some r) → Aside (SRel w r A cap bs p (k + 1) A' c' L' W) := fun L' A' c' p'' W h1 h2 h3 h4 h5 => ⟨p'', h1, h2, h3, by omega, h5⟩
      have HF := hid FIN
      clear FIN
      obtain ⟨Q, AQ, cQ, hsel, OQ, VQ⟩ : ∃ (Q : List TaskD) (AQ : Option Addr) (cQ : Nat), ((ok = true ∧ Q = M ∧ AQ = A4 ∧ cQ = c4) ∨ (ok = false ∧ Q = L ∧ AQ = A3 ∧ cQ = c3)) ∧ Hid (w4.ownsRow w.heap.size 31 3 (.slice AQ Q.length cQ) Q.length (Q.flatMap encTask)) ∧ Hid (validT Q = true) := by
        cases ok
        · exact ⟨L, A3, c3, .inr ⟨rfl, rfl, rfl, rfl⟩, O34, HV⟩
        · exact ⟨M, A4, c4, .inl ⟨rfl, rfl, rfl, rfl⟩, O4, hid (HOK.out rfl)⟩
      have hQ10 := (validT_iff.1 VQ.out).1
      have HQR := hid (fun hl => takeRow_any AQ Q cQ w4 (by omega) hl VQ.out (row_arr OQ.out))
      rcases hsel with ⟨rfl, rfl, rfl, rfl⟩ | ⟨rfl, rfl, rfl, rfl⟩
      all_goals
        by_cases h2 : 2 < Q.length
        · have h2' : ((Q.length : Int) > 2) := by omega
          go_wp2_with fail
          (with_reducible refine (pick_any r A cap bs (p' + 1 + 1) _ _ R4.out (by omega) (by omega)).mono ?_)
          rintro e w5 ⟨m, rfl, hm, hr5⟩
          have OQ5 := hid (row_far OQ.out hr5.gr hrlt)
          have G5 := hid (grown_trans G4.out hr5.gr)
          have R5 := hid hr5.rd
          have hs5 : w.heap.size ≤ w5.heap.size := G5.out.size
          clear hm hr5
          by_cases hm0 : m = 0
          · subst hm0
            have hc6 := takeRow_any AQ Q cQ w5 (by omega) (by omega) VQ.out (row_arr OQ5.out)
            have HC6 := hid hc6
            clear hc6
            go_wp2_with fail
            refine HC6.out.mono ?_
            rintro e w6 ⟨A6, c6, rfl, o6, b6⟩
            have F := HF.out _ A6 c6 (p' + 1 + 1 + 1) w6 (take_valid VQ.out) (row_less o6 hs5) (rd_of_below R5.out b6) (by omega) (grown_of_below G5.out b6)
            have h610 : (takeT Q).length ≤ 10 := (validT_iff.1 (take_valid VQ.out)).1
            generalize takeT Q = T at *
            clear o6 b6
            go_wp2
            go_roundg (n - 1)
            case measure => omega
            case rel => exact ⟨k + 1, n - 1, c6, A6, T, by omega, by omega, h610, rfl, by go_num, F⟩
          · have hm0' : (m == 0) = false := by rw [beq_eq_false_iff_ne]; exact hm0
            have HM0 := hid hm0
            have F := HF.out _ AQ cQ (p' + 1 + 1 + 1) w5 VQ.out OQ5.out R5.out (by omega) G5.out
            clear hm0
            go_wp2
            go_roundg (n - 1)
            case measure => omega
            case rel => exact ⟨k + 1, n - 1, cQ, AQ, Q, by omega, by omega, hQ10, rfl, by go_num, F⟩
        · have h2' : ¬ ((Q.length : Int) > 2) := by omega
          have F := HF.out _ AQ cQ (p' + 1 + 1) w4 VQ.out OQ.out R4.out (by omega) G4.out
          go_wp2
          go_roundg (n - 1)
          case measure => omega
          case rel => exact ⟨k + 1, n - 1, cQ, AQ, Q, by omega, by omega, hQ10, rfl, by go_num, F⟩
    · have hn : n = 0 := by omega
      subst hn
      go_wp2
      go_ret
      exact ⟨A3, c3, L, rfl, hL10, HO.out, p', RD.out, by omega, GR.out⟩
end Go.Proofs.Ythppgaglmgnocaa
