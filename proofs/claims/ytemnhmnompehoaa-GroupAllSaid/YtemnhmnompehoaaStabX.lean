/-
  The stable sort's functions at []int: stable, SortStableFunc.
-/
import Derived.Test.YtemnhmnompehoaaStabW
import Derived.Shelf.SlSortCmp.Insertion1
import Derived.Test.YtemnhmnompehoaaBase
import Derived.Shelf.SlSortCmp.Kit1
import Derived.BigRegion
import Derived.Shelf.SlSortCmp.QuietGrown
import Derived.Sort.WalkB2
import Derived.Sort.WalkB12
namespace Go.Proofs.Ytemnhmnompehoaa
open Go Go.Shelf Go.RowKit Go.Lib Go.Sort

theorem lt_of_ky (κ : Ky W64) : ltOf (fun x y => κ.k x - κ.k y) = kB κ := by
  funext x y
  unfold ltOf kB
  exact decide_eq_decide.2 (show κ.k x - κ.k y < 0 ↔ κ.k x < κ.k y by omega)

set_option linter.unusedVariables false in
set_option maxHeartbeats 8000000 in
set_option maxRecDepth 1000000 in
theorem ins_any (κ : Ky W64) (p blk off cap sz a b : Nat) (d0 d : Array W64) (w0 w : World) (R : Row1 encW w0 blk off d0) (hs : d0.size = sz) (hds : d.size = sz) (S : SW encW w0 blk off d w) (hsz : sz ≤ 17592186044416) (hcmp : CmpLays1 Try.prog 59 #[.pointer (some ⟨p, 0, none⟩)] encW (fun x y => κ.k x - κ.k y) blk off sz w0) (hab : a ≤ b) (hb : b ≤ sz) :
    Calls Try.prog 117 #[.slice (some ⟨blk, off, none⟩) sz cap, .int .i64 a, .int .i64 b, .func (.func 59) #[] #[.pointer (some ⟨p, 0, none⟩)]] w fun e w' => e = .returned (.tuple #[]) ∧ SW encW w0 blk off (insertionSort (kB κ) d a b) w' := by
  have eg : ∀ args w, (callFunc 59 args).run Try.prog w = .ok (.enter 59 args) w := enters_of Try.func59 (by kernel_rfl) rfl
  subst hds
  rw [← lt_of_ky]
  exact Any.insertionSortCmpFunc_s Try.laysIns encW _ 59 _ blk off cap a b d0 d w0 w eg (by rw [hs]; exact hcmp) R hs S hab hb (by omega)

set_option linter.unusedVariables false in
set_option maxHeartbeats 8000000 in
set_option maxRecDepth 1000000 in
theorem stable_any (κ : Ky W64) (p blk off cap sz : Nat) (d0 d : Array W64) (w0 w : World) (R : Row1 encW w0 blk off d0) (hs : d0.size = sz) (hds : d.size = sz) (S : SW encW w0 blk off d w) (hsz : sz ≤ 17592186044416) (hcmp : CmpLays1 Try.prog 59 #[.pointer (some ⟨p, 0, none⟩)] encW (fun x y => κ.k x - κ.k y) blk off sz w0) (hasc : ∀ i j, i < j → j < sz → κ.v d[i]! ≤ κ.v d[j]!) :
    Calls Try.prog 95 #[.slice (some ⟨blk, off, none⟩) sz cap, .int .i64 sz, .func (.func 59) #[] #[.pointer (some ⟨p, 0, none⟩)]] w fun e w' => e = .returned (.tuple #[]) ∧ ∃ d', SW encW w0 blk off d' w' ∧ PermIn 0 sz d d' ∧ SortedIn (rB κ) 0 sz d' := by
  have HP0 : Hid (Ph1 κ sz 0 d d) := Ph1.start hasc
  have S0 : Aside (SW encW w0 blk off d w) := S
  have HCMP := Kp.mk hcmp
  have mixed : Try.prog.follows .mixedOrders = true := by kernel_rfl
  clear S hcmp
  clear hasc
  go_enter Try.func95, Try.ntmps95
  go_wp2
  go_loopg [7, 8] sz (fun g s t wr => ∃ (a : Nat) (dk : Array W64), s = .int .i64 a ∧ t = .int .i64 ((a : Int) + 20) ∧ a ≤ sz ∧ sz - a ≤ g ∧ dk.size = sz ∧ Hid (20 ∣ a) ∧ Aside (SW encW w0 blk off dk wr) ∧ Hid (Ph1 κ sz a d dk))
  case atStart => exact ⟨0, d, rfl, rfl, by omega, by omega, hds, (show Hid _ from ⟨0, rfl⟩), S0, HP0⟩
  case round =>
    clear S0 HP0
    obtain ⟨a, dk, rfl, rfl, has, hg, hdk, HDV, S1, HP⟩ := hrel
    by_cases hlt : a + 20 ≤ sz
    · have hltz : decide ((a : Int) + 20 ≤ (sz : Int)) = true := by simp; omega
      have hltz' : (a : Int) + 20 ≤ (sz : Int) := by omega
      obtain ⟨P1, P2⟩ := ins_stab κ dk a (a + 20) (by omega) (by omega) (fun k l h1 h2 h3 => HP.out.rest k l h1 h2 (by omega))
      have HS := Kp.mk (HP.out.step HDV.out hlt (by omega) P1 P2)
      have hsz2 : (insertionSort (kB κ) dk a (a + 20)).size = sz := by rw [P1.1]; exact hdk
      have HC := Kp.mk (ins_any κ p blk off cap sz a (a + 20) d0 dk w0 wr R hs hdk S1.out hsz HCMP.it (by omega) hlt)
      rw [show ((a + 20 : Nat) : Int) = (a : Int) + 20 by omega] at HC
      clear S1 P1 P2
      go_wp2_with fail
      refine HC.it.mono ?_
      rintro e w2 ⟨rfl, S2⟩
      have S3 : Aside _ := S2
      clear S2 HC
      go_wp2
      go_roundg (sz - (a + 20))
      case measure => omega
      case rel => exact ⟨a + 20, _, by first | rfl | (congr 1; omega), by first | rfl | (congr 1; omega), hlt, by omega, hsz2, (show Hid _ from (Nat.dvd_add_right HDV.out).2 ⟨1, rfl⟩), S3, HS.it⟩
    · have hltz : decide ((a : Int) + 20 ≤ (sz : Int)) = false := by simp; omega
      have hltz' : ¬ (a : Int) + 20 ≤ (sz : Int) := by omega
      obtain ⟨P1, P2⟩ := ins_stab κ dk a sz has (by omega) (fun k l h1 h2 h3 => HP.out.rest k l h1 h2 h3)
      have HS := Kp.mk (HP.out.last HDV.out has (by omega) (by omega) P1 P2)
      have hsz2 : (insertionSort (kB κ) dk a sz).size = sz := by rw [P1.1]; exact hdk
      have HC := Kp.mk (ins_any κ p blk off cap sz a sz d0 dk w0 wr R hs hdk S1.out hsz HCMP.it has (Nat.le_refl _))
      clear S1 P1 P2 HP hdk
      go_wp2_with fail
      refine HC.it.mono ?_
      rintro e w2 ⟨rfl, S2⟩
      obtain ⟨d2, hd2⟩ : ∃ d2, d2 = insertionSort (kB κ) dk a sz := ⟨_, rfl⟩
      rw [← hd2] at hsz2 HS S2
      have S3 : Aside _ := S2
      clear S2 HC hd2 hlt hltz hltz' HDV
      go_wp2
      go_loopg [6, 7, 8, 9] sz (fun g s6 _s7 _s8 _s9 wr => ∃ (s : Nat) (dk : Array W64), s6 = .int .i64 s ∧ 20 ≤ s ∧ s ≤ 2 * sz + 20 ∧ sz - s ≤ g ∧ dk.size = sz ∧ Aside (SW encW w0 blk off dk wr) ∧ Hid (Bk κ s sz d dk))
      case atStart => exact ⟨20, d2, rfl, by omega, by omega, by omega, hsz2, S3, HS.it⟩
      case round =>
        clear S3 HS hsz2
        obtain ⟨s, dk, rfl, hs20, hs2, hg2, hdk, S1, HB⟩ := hrel
        by_cases hls : s < sz
        · have hlz : (s : Int) < (sz : Int) := by omega
          have HP2 : Hid (Ph2 κ s sz 0 d dk) := HB.out.next
          clear HB
          obtain ⟨wo, rfl⟩ : ∃ wo : World, wo = wr := ⟨_, rfl⟩
          go_wp2
          go_loopg [7, 8] sz (fun g3 s7 s8 wr3 => ∃ (a : Nat) (d3 : Array W64), s7 = .int .i64 a ∧ s8 = .int .i64 ((a : Int) + 2 * (s : Int)) ∧ a ≤ sz ∧ sz - a ≤ g3 ∧ d3.size = sz ∧ Hid (2 * s ∣ a) ∧ Aside (SW encW w0 blk off d3 wr3) ∧ Hid (Ph2 κ s sz a d d3))
          case atStart => exact ⟨0, dk, rfl, by first | rfl | (congr 1; omega), by omega, by omega, hdk, (show Hid _ from ⟨0, rfl⟩), S1, HP2⟩
          case round =>
            clear S1 HP2 hdk
            obtain ⟨a, d3, rfl, rfl, has, hg3, hd3, HDV, S1, HP⟩ := hrel
            by_cases hlt : a + 2 * s ≤ sz
            · have hltz : decide ((a : Int) + 2 * (s : Int) ≤ (sz : Int)) = true := by simp; omega
              have hltz' : (a : Int) + 2 * (s : Int) ≤ (sz : Int) := by omega
              have HC := Kp.mk (symMerge_any (2 * s) κ p blk off cap sz a (a + s) (a + 2 * s) d0 d3 w0 wr R hs hd3 S1.out (by omega) (by omega) hlt (by omega) HCMP.it (by omega))
              rw [show ((a + s : Nat) : Int) = (a : Int) + (s : Int) by omega, show ((a + 2 * s : Nat) : Int) = (a : Int) + 2 * (s : Int) by omega] at HC
              clear S1
              go_wp2_with fail
              refine HC.it.mono ?_
              rintro e3 w3 ⟨rfl, d4, S2, M⟩
              have S3 : Aside _ := S2
              have HS := Kp.mk (HP.out.step HDV.out (by omega) hlt (by omega) M)
              have hd4 : d4.size = sz := by rw [M.1.1]; exact hd3
              clear S2 M HC
              go_wp2
              go_roundg (sz - (a + 2 * s))
              case measure => omega
              case rel => exact ⟨a + 2 * s, d4, by first | rfl | (congr 1; omega), by first | rfl | (congr 1; omega), hlt, by omega, hd4, (show Hid _ from (Nat.dvd_add_right HDV.out).2 ⟨1, by omega⟩), S3, HS.it⟩
            · have hltz : decide ((a : Int) + 2 * (s : Int) ≤ (sz : Int)) = false := by simp; omega
              have hltz' : ¬ (a : Int) + 2 * (s : Int) ≤ (sz : Int) := by omega
              by_cases hml : a + s < sz
              · have hmz : (a : Int) + (s : Int) < (sz : Int) := by omega
                have HC := Kp.mk (symMerge_any (2 * s) κ p blk off cap sz a (a + s) sz d0 d3 w0 wr R hs hd3 S1.out (by omega) hml (Nat.le_refl _) (by omega) HCMP.it (by omega))
                rw [show ((a + s : Nat) : Int) = (a : Int) + (s : Int) by omega] at HC
                clear S1
                go_wp2_with fail
                refine HC.it.mono ?_
                rintro e3 w3 ⟨rfl, d4, S2, M⟩
                have S3 : Aside _ := S2
                have HS := Kp.mk (HP.out.last HDV.out (by omega) hml (by omega) (by omega) M)
                have hd4 : d4.size = sz := by rw [M.1.1]; exact hd3
                clear S2 M HC
                go_wp2
                go_roundg (sz - 2 * s)
                case measure => omega
                case rel => exact ⟨2 * s, d4, by first | rfl | (congr 1; omega), by omega, by omega, by omega, hd4, S3, HS.it⟩
              · have hmz : ¬ (a : Int) + (s : Int) < (sz : Int) := by omega
                have HS := Kp.mk (HP.out.rest HDV.out has (by omega))
                go_wp2
                go_roundg (sz - 2 * s)
                case measure => omega
                case rel => exact ⟨2 * s, d3, by first | rfl | (congr 1; omega), by omega, by omega, by omega, hd3, S1, HS.it⟩
        · have hlz : ¬ (s : Int) < (sz : Int) := by omega
          go_wp2
          go_end0
          exact ⟨rfl, dk, S1.out, HB.out.perm, HB.out.whole (by omega)⟩

set_option linter.unusedVariables false in
set_option maxHeartbeats 8000000 in
set_option maxRecDepth 1000000 in
theorem sortStable_any (κ : Ky W64) (p blk off cap sz : Nat) (d0 d : Array W64) (w0 w : World) (R : Row1 encW w0 blk off d0) (hs : d0.size = sz) (hds : d.size = sz) (S : SW encW w0 blk off d w) (hsz : sz ≤ 17592186044416) (hcmp : CmpLays1 Try.prog 59 #[.pointer (some ⟨p, 0, none⟩)] encW (fun x y => κ.k x - κ.k y) blk off sz w0) (hasc : ∀ i j, i < j → j < sz → κ.v d[i]! ≤ κ.v d[j]!) :
    Calls Try.prog 58 #[.slice (some ⟨blk, off, none⟩) sz cap, .func (.func 59) #[] #[.pointer (some ⟨p, 0, none⟩)]] w fun e w' => e = .returned (.tuple #[]) ∧ ∃ d', SW encW w0 blk off d' w' ∧ PermIn 0 sz d d' ∧ SortedIn (rB κ) 0 sz d' := by
  have HC := Kp.mk (stable_any κ p blk off cap sz d0 d w0 w R hs hds S hsz hcmp hasc)
  clear S hcmp hasc R
  go_enter Try.func58, Try.ntmps58
  go_wp2_with fail
  refine HC.it.mono ?_
  rintro e w2 ⟨rfl, d2, S2, P2, Q2⟩
  have HS := Kp.mk S2
  have HP := Kp.mk P2
  have HQ := Kp.mk Q2
  clear S2 P2 Q2 HC
  go_wp2
  go_end0
  exact ⟨rfl, d2, HS.it, HP.it, HQ.it⟩


end Go.Proofs.Ytemnhmnompehoaa
