/-
  The stable sort's functions at []int: swapRange, rotate, symMerge, stable, SortStableFunc.
-/
import Derived.Test.YtemnhmnompehoaaStab
import Derived.Test.YtemnhmnompehoaaBase
import Derived.Shelf.SlSortCmp.Kit1
import Derived.BigRegion
import Derived.Shelf.SlSortCmp.QuietGrown
import Derived.Sort.WalkB2
import Derived.Sort.WalkB12
namespace Go.Proofs.Ytemnhmnompehoaa
open Go Go.Shelf Go.RowKit Go.Lib Go.Sort

/-- A number of 64 bits. -/
abbrev W64 := {x : Int // (Lit.int .i64 x).wf = true}
instance : Inhabited W64 := ⟨⟨0, rfl⟩⟩
def encW (x : W64) : Value := .int .i64 x.1

theorem Rot.idl {α : Type} [Inhabited α] {s m e : Nat} {d : Array α} (h : s = m) : Rot s m e d d := by
  subst h
  exact ⟨rfl, fun k h1 h2 => by congr 1; omega, fun k h1 h2 => by omega, fun k _ => rfl⟩
theorem Rot.idr {α : Type} [Inhabited α] {s m e : Nat} {d : Array α} (h : m = e) : Rot s m e d d := by
  subst h
  exact ⟨rfl, fun k h1 h2 => by omega, fun k h1 h2 => by congr 1; omega, fun k _ => rfl⟩
theorem mg_left' {α : Type} [Inhabited α] {κ : Ky α} {a m b : Nat} {d : Array α} (h : a = m) : Mg κ a m b d d := by subst h; exact mg_left
theorem mg_right' {α : Type} [Inhabited α] {κ : Ky α} {a m b : Nat} {d : Array α} (h : m = b) : Mg κ a m b d d := by subst h; exact mg_right

set_option linter.unusedVariables false in
set_option maxHeartbeats 8000000 in
set_option maxRecDepth 1000000 in
theorem swapRange_any (blk off cap sz a b n : Nat) (fv : Value) (d0 d : Array W64) (w0 w : World) (R : Row1 encW w0 blk off d0) (hs : d0.size = sz) (hds : d.size = sz) (S : SW encW w0 blk off d w) (hab : a + n ≤ b) (hb : b + n ≤ sz) (hsz : sz < 4611686018427387904) :
    Calls Try.prog 135 #[.slice (some ⟨blk, off, none⟩) sz cap, .int .i64 a, .int .i64 b, .int .i64 n, fv] w fun e w' => e = .returned (.tuple #[]) ∧ SW encW w0 blk off (swrN d a b n) w' := by
  have S0 : Aside (SW encW w0 blk off d w) := S
  clear S
  go_enter Try.func135, Try.ntmps135
  go_wp2
  go_loopg [10] n (fun g s wr => ∃ (i : Nat) (dk : Array W64), s = .int .i64 i ∧ i ≤ n ∧ n - i ≤ g ∧ dk.size = sz ∧ Aside (SW encW w0 blk off dk wr) ∧ Hid (dk = swrN d a b i))
  case atStart => exact ⟨0, d, rfl, by omega, by omega, hds, S0, rfl⟩
  case round =>
    clear S0
    obtain ⟨i, dk, rfl, hi, hg, hdk, S1, HD⟩ := hrel
    by_cases hlt : i < n
    · have hltz : (i : Int) < (n : Int) := by omega
      go_wp2_with fail
      obtain ⟨iN1, hiN1⟩ : ∃ q, q = a + i := ⟨_, rfl⟩
      obtain ⟨jN1, hjN1⟩ : ∃ q, q = b + i := ⟨_, rfl⟩
      have ea1 : ((a : Int) + (i : Int)).toNat = iN1 := by omega
      have pa1 : (0 : Int) ≤ (a : Int) + (i : Int) := by omega
      have ba1 : (a : Int) + (i : Int) < (sz : Int) := by omega
      have ra1 : IntKind.i64.wrap ((a : Int) + (i : Int)) = (a : Int) + (i : Int) := by rw [IntKind.wrap_i64]; omega
      have ec1 : ((b : Int) + (i : Int)).toNat = jN1 := by omega
      have pc1 : (0 : Int) ≤ (b : Int) + (i : Int) := by omega
      have bc1 : (b : Int) + (i : Int) < (sz : Int) := by omega
      have rc1 : IntKind.i64.wrap ((b : Int) + (i : Int)) = (b : Int) + (i : Int) := by rw [IntKind.wrap_i64]; omega
      obtain ⟨x1, hx1⟩ : ∃ x, x = dk[a + i]! := ⟨_, rfl⟩
      obtain ⟨y1, hy1⟩ : ∃ x, x = dk[b + i]! := ⟨_, rfl⟩
      have S2 : Aside (SW encW w0 blk off (swp dk (a + i) (b + i)) ((wr.setCell ⟨blk, off + iN1, none⟩ (.int .i64 y1.1)).setCell ⟨blk, off + jN1, none⟩ (.int .i64 x1.1)).drew) := by rw [hiN1, hjN1, hx1, hy1]; exact S1.out.swapped R (a + i) (b + i) (by omega) (by omega)
      have c1a : wr.cell? ⟨blk, off + (a + i), none⟩ = some (.int .i64 (dk[a + i]!).1) := S1.out.c1 R (by omega) (a + i) (by omega)
      have c1b : wr.cell? ⟨blk, off + (b + i), none⟩ = some (.int .i64 (dk[b + i]!).1) := S1.out.c1 R (by omega) (b + i) (by omega)
      have f1a := S1.out.f1 R (by omega) (a + i) (by omega)
      have f1b := S1.out.f1 R (by omega) (b + i) (by omega)
      obtain ⟨u1, c1c⟩ := S1.out.c2 R (by omega) (a + i) (b + i) (by omega) (by omega) (.int .i64 y1.1)
      rw [← hjN1, ← hiN1] at c1c
      rw [← hx1, ← hiN1] at c1a
      rw [← hy1, ← hjN1] at c1b
      rw [← hiN1] at f1a
      rw [← hjN1] at f1b
      clear S1 hx1 hy1 hiN1 hjN1
      go_wp2_with fail
      go_big_region
      clear c1a c1b c1c f1a f1b
      generalize ((wr.setCell ⟨blk, off + iN1, none⟩ (.int .i64 y1.1)).setCell ⟨blk, off + jN1, none⟩ (.int .i64 x1.1)).drew = w2 at S2 ⊢
      clear ea1 ec1
      go_wp2
      go_roundg (n - (i + 1))
      case measure => omega
      case rel => exact ⟨i + 1, swp dk (a + i) (b + i), by go_num, by omega, by omega, by rw [size_swp]; exact hdk, S2, (show Hid _ from by rw [HD.out]; rfl)⟩
    · have hltz : ¬ (i : Int) < (n : Int) := by omega
      go_wp2
      go_end0
      obtain rfl : i = n := by omega
      exact ⟨rfl, by rw [← HD.out]; exact S1.out⟩

set_option linter.unusedVariables false in
set_option maxHeartbeats 8000000 in
set_option maxRecDepth 1000000 in
theorem rotate_any (blk off cap sz a m b : Nat) (fv : Value) (d0 d : Array W64) (w0 w : World) (R : Row1 encW w0 blk off d0) (hs : d0.size = sz) (hds : d.size = sz) (S : SW encW w0 blk off d w) (ham : a < m) (hmb : m < b) (hb : b ≤ sz) (hsz : sz < 4611686018427387904) :
    Calls Try.prog 131 #[.slice (some ⟨blk, off, none⟩) sz cap, .int .i64 a, .int .i64 m, .int .i64 b, fv] w fun e w' => e = .returned (.tuple #[]) ∧ ∃ d', SW encW w0 blk off d' w' ∧ Rot a m b d d' ∧ PermIn a b d d' := by
  have S0 : Aside (SW encW w0 blk off d w) := S
  clear S
  have HR := Kp.mk R
  clear R
  go_enter Try.func131, Try.ntmps131
  go_wp2
  go_loopg [10, 11] (m + b) (fun g s t wr => ∃ (i j : Nat) (dk : Array W64), s = .int .i64 i ∧ t = .int .i64 j ∧ 0 < i ∧ 0 < j ∧ i ≤ m - a ∧ j ≤ b - m ∧ i + j ≤ g ∧ dk.size = sz ∧ Aside (SW encW w0 blk off dk wr) ∧ Hid (PermIn a b d dk) ∧ Hid (∀ d', Rot (m - i) m (m + j) dk d' → Rot a m b d d'))
  case atStart => exact ⟨m - a, b - m, d, by congr 1; omega, by congr 1; omega, by omega, by omega, by omega, by omega, by omega, hds, S0, (show Hid _ from permIn_refl d a b), (show Hid _ from fun d' h => by rwa [show m - (m - a) = a by omega, show m + (b - m) = b by omega] at h)⟩
  case round =>
    clear S0
    obtain ⟨i, j, dk, rfl, rfl, hi0, hj0, hi, hj, hg, hdk, S1, HP, HROT⟩ := hrel
    have hmi : ((m - i : Nat) : Int) = (m : Int) - (i : Int) := by omega
    by_cases hij : i = j
    · subst hij
      have hne : ((i : Int) != (i : Int)) = false := by simp
      have HC := Kp.mk (swapRange_any blk off cap sz (m - i) m i fv d0 dk w0 wr HR.it hs hdk S1.out (by omega) (by omega) hsz)
      rw [hmi] at HC
      clear S1
      go_wp2_with fail
      refine HC.it.mono ?_
      rintro e w2 ⟨rfl, S2⟩
      have S3 : Aside _ := S2
      clear S2
      go_wp2
      go_end0
      refine ⟨rfl, _, S3.out, HROT.out _ (Rot.swr (by omega) (by omega)), permIn_trans _ _ _ _ _ HP.out (swrN_perm dk a b (m - i) m (by omega) (by omega) (by omega) i (by omega))⟩
    · have hne : ((i : Int) != (j : Int)) = true := by simp; omega
      by_cases hji : j < i
      · have hd : decide ((i : Int) > (j : Int)) = true := by simp; omega
        have HC := Kp.mk (swapRange_any blk off cap sz (m - i) m j fv d0 dk w0 wr HR.it hs hdk S1.out (by omega) (by omega) hsz)
        rw [hmi] at HC
        clear S1
        go_wp2_with fail
        refine HC.it.mono ?_
        rintro e w2 ⟨rfl, S2⟩
        have S3 : Aside _ := S2
        clear S2 HC
        go_wp2
        go_roundg (i - j + j)
        case measure => omega
        case rel => exact ⟨i - j, j, _, by congr 1; omega, rfl, by omega, hj0, by omega, hj, by omega, by rw [swrN_size]; exact hdk, S3, (show Hid _ from permIn_trans _ _ _ _ _ HP.out (swrN_perm dk a b (m - i) m (by omega) (by omega) (by omega) j (by omega))), (show Hid _ from fun d' h => HROT.out _ (Rot.left hji (by omega) (by omega) h))⟩
      · have hd : decide ((i : Int) > (j : Int)) = false := by simp; omega
        have hmj : ((m + j - i : Nat) : Int) = (m : Int) + (j : Int) - (i : Int) := by omega
        have HC := Kp.mk (swapRange_any blk off cap sz (m - i) (m + j - i) i fv d0 dk w0 wr HR.it hs hdk S1.out (by omega) (by omega) hsz)
        rw [hmi, hmj] at HC
        clear S1
        go_wp2_with fail
        refine HC.it.mono ?_
        rintro e w2 ⟨rfl, S2⟩
        have S3 : Aside _ := S2
        clear S2 HC
        go_wp2
        go_roundg (i + (j - i))
        case measure => omega
        case rel => exact ⟨i, j - i, _, rfl, by congr 1; omega, hi0, by omega, hi, by omega, by omega, by rw [swrN_size]; exact hdk, S3, (show Hid _ from permIn_trans _ _ _ _ _ HP.out (swrN_perm dk a b (m - i) (m + j - i) (by omega) (by omega) (by omega) i (by omega))), (show Hid _ from fun d' h => HROT.out _ (Rot.right (by omega) (by omega) (by omega) h))⟩

set_option linter.unusedVariables false in
set_option maxHeartbeats 8000000 in
set_option maxRecDepth 1000000 in
theorem symMerge_left (κ : Ky W64) (p blk off cap sz a m b : Nat) (d0 d : Array W64) (w0 w : World) (R : Row1 encW w0 blk off d0) (hs : d0.size = sz) (hds : d.size = sz) (S : SW encW w0 blk off d w) (ham : a < m) (hmb : m < b) (hb : b ≤ sz) (hsz : sz < 4611686018427387904) (hcmp : CmpLays1 Try.prog 59 #[.pointer (some ⟨p, 0, none⟩)] encW (fun x y => κ.k x - κ.k y) blk off sz w0) (hm : m = a + 1) :
    Calls Try.prog 118 #[.slice (some ⟨blk, off, none⟩) sz cap, .int .i64 a, .int .i64 m, .int .i64 b, .func (.func 59) #[] #[.pointer (some ⟨p, 0, none⟩)]] w fun e w' => e = .returned (.tuple #[]) ∧ ∃ d', SW encW w0 blk off d' w' ∧ Mg κ a m b d d' := by
  have S0 : Aside (SW encW w0 blk off d w) := S
  have HCMP := Kp.mk hcmp
  have mixed : Try.prog.follows .mixedOrders = true := by kernel_rfl
  clear S hcmp
  have h1 : (((m : Int) - (a : Int)) == 1) = true := by simp; omega
  have HM := Kp.mk hm
  clear hm
  go_enter Try.func118, Try.ntmps118
  go_wp2
  go_loopg [10, 11] (b - m) (fun g s t wr => ∃ (i j : Nat), s = .int .i64 i ∧ t = .int .i64 j ∧ m ≤ i ∧ i ≤ j ∧ j ≤ b ∧ j - i ≤ g ∧ Aside (SW encW w0 blk off d wr) ∧ Hid (i = m ∨ κ.k d[i - 1]! < κ.k d[a]!) ∧ Hid (j = b ∨ κ.k d[a]! ≤ κ.k d[j]!))
  case atStart => exact ⟨m, b, rfl, rfl, by omega, by omega, by omega, by omega, S0, (show Hid _ from .inl rfl), (show Hid _ from .inl rfl)⟩
  case round =>
    clear S0
    obtain ⟨i, j, rfl, rfl, hmi, hij, hjb, hg, S1, HI, HJ⟩ := hrel
    by_cases hlt : i < j
    · have hltz : (i : Int) < (j : Int) := by omega
      obtain ⟨h, hh⟩ : ∃ h, h = (i + j) / 2 := ⟨_, rfl⟩
      have hhi : i ≤ h := by omega
      have hhj : h < j := by omega
      have hhz : ((i : Int) + (j : Int)) / 2 = (h : Int) := by omega
      clear hh
      by_cases hlv : κ.k d[h]! < κ.k d[a]!
      · have HLV := Kp.mk hlv
        obtain ⟨iN1, hiN1⟩ : ∃ q, q = h := ⟨_, rfl⟩
        obtain ⟨jN1, hjN1⟩ : ∃ q, q = a := ⟨_, rfl⟩
        have ea1 : ((h : Int)).toNat = iN1 := by omega
        have pa1 : (0 : Int) ≤ (h : Int) := by omega
        have ba1 : (h : Int) < (sz : Int) := by omega
        have ec1 : ((a : Int)).toNat = jN1 := by omega
        have pc1 : (0 : Int) ≤ (a : Int) := by omega
        have bc1 : (a : Int) < (sz : Int) := by omega
        obtain ⟨x1, hx1⟩ : ∃ x, x = d[h]! := ⟨_, rfl⟩
        obtain ⟨y1, hy1⟩ : ∃ x, x = d[a]! := ⟨_, rfl⟩
        obtain ⟨z1, hz1⟩ : ∃ z, z = κ.k x1 - κ.k y1 := ⟨_, rfl⟩
        have l1a : ∀ n os, (grow (wr.drewN n) os).cell? ⟨blk, off + iN1, none⟩ = some (.int .i64 x1.1) := fun n os => by rw [hiN1, hx1]; exact S1.out.cl R (by omega) (h) (by omega) n os
        have l1b : ∀ n os, (grow (wr.drewN n) os).cell? ⟨blk, off + jN1, none⟩ = some (.int .i64 y1.1) := fun n os => by rw [hjN1, hy1]; exact S1.out.cl R (by omega) (a) (by omega) n os
        have hc1 : ∀ n os, Calls Try.prog 59 #[.int .i64 x1.1, .int .i64 y1.1, .pointer (some ⟨p, 0, none⟩)] (grow (wr.drewN n) os) fun e w' => e = .returned (.int .i64 z1) ∧ ∃ q os', w' = grow ((grow (wr.drewN n) os).drewN q) os' := fun n os => by rw [hz1]; exact S1.out.cmp HCMP.it (by omega) x1 y1 n os
        have hv1 : decide (z1 < 0) = true := by rw [hz1, hx1, hy1]; simp; omega
        have HCK1 := Kp.mk hc1
        clear hx1 hy1 hiN1 hjN1 hz1 hc1 hlv
        go_wp2_with fail
        go_quiet_grown (first | (go_at_call 59; refine Calls.grown_of (HCK1.it _ _)))
        have S2 : Aside (SW encW w0 blk off d (grow (wr.drewN nq) osq)) := S1.out.grown nq osq
        clear l1a l1b HCK1 S1
        generalize grow (wr.drewN nq) osq = w2 at S2 ⊢
        clear nq osq
        clear ea1 ec1
        go_wp2
        go_roundg (j - (h + 1))
        case measure => omega
        case rel => exact ⟨h + 1, j, by go_num, rfl, by omega, by omega, hjb, by omega, S2, (show Hid _ from .inr (by rw [Nat.add_sub_cancel]; exact HLV.it)), HJ⟩
      · have HLV := Kp.mk (Int.not_lt.1 hlv)
        obtain ⟨iN1, hiN1⟩ : ∃ q, q = h := ⟨_, rfl⟩
        obtain ⟨jN1, hjN1⟩ : ∃ q, q = a := ⟨_, rfl⟩
        have ea1 : ((h : Int)).toNat = iN1 := by omega
        have pa1 : (0 : Int) ≤ (h : Int) := by omega
        have ba1 : (h : Int) < (sz : Int) := by omega
        have ec1 : ((a : Int)).toNat = jN1 := by omega
        have pc1 : (0 : Int) ≤ (a : Int) := by omega
        have bc1 : (a : Int) < (sz : Int) := by omega
        obtain ⟨x1, hx1⟩ : ∃ x, x = d[h]! := ⟨_, rfl⟩
        obtain ⟨y1, hy1⟩ : ∃ x, x = d[a]! := ⟨_, rfl⟩
        obtain ⟨z1, hz1⟩ : ∃ z, z = κ.k x1 - κ.k y1 := ⟨_, rfl⟩
        have l1a : ∀ n os, (grow (wr.drewN n) os).cell? ⟨blk, off + iN1, none⟩ = some (.int .i64 x1.1) := fun n os => by rw [hiN1, hx1]; exact S1.out.cl R (by omega) (h) (by omega) n os
        have l1b : ∀ n os, (grow (wr.drewN n) os).cell? ⟨blk, off + jN1, none⟩ = some (.int .i64 y1.1) := fun n os => by rw [hjN1, hy1]; exact S1.out.cl R (by omega) (a) (by omega) n os
        have hc1 : ∀ n os, Calls Try.prog 59 #[.int .i64 x1.1, .int .i64 y1.1, .pointer (some ⟨p, 0, none⟩)] (grow (wr.drewN n) os) fun e w' => e = .returned (.int .i64 z1) ∧ ∃ q os', w' = grow ((grow (wr.drewN n) os).drewN q) os' := fun n os => by rw [hz1]; exact S1.out.cmp HCMP.it (by omega) x1 y1 n os
        have hv1 : decide (z1 < 0) = false := by rw [hz1, hx1, hy1]; simp; omega
        have HCK1 := Kp.mk hc1
        clear hx1 hy1 hiN1 hjN1 hz1 hc1 hlv
        go_wp2_with fail
        go_quiet_grown (first | (go_at_call 59; refine Calls.grown_of (HCK1.it _ _)))
        have S2 : Aside (SW encW w0 blk off d (grow (wr.drewN nq) osq)) := S1.out.grown nq osq
        clear l1a l1b HCK1 S1
        generalize grow (wr.drewN nq) osq = w2 at S2 ⊢
        clear nq osq
        clear ea1 ec1
        go_wp2
        go_roundg (h - i)
        case measure => omega
        case rel => exact ⟨i, h, rfl, rfl, hmi, by omega, by omega, by omega, S2, HI, (show Hid _ from .inr HLV.it)⟩
    · have hltz : ¬ (i : Int) < (j : Int) := by omega
      obtain rfl : i = j := by omega
      go_wp2
      go_loopg [13] (i - a) (fun g s wr => ∃ (k : Nat) (dk : Array W64), s = .int .i64 k ∧ a ≤ k ∧ k + 1 ≤ i ∧ i - k ≤ g ∧ dk.size = sz ∧ Aside (SW encW w0 blk off dk wr) ∧ Hid (dk = mvR d a (k - a)))
      case atStart => exact ⟨a, d, rfl, by omega, by omega, by omega, hds, S1, (show Hid _ from by rw [Nat.sub_self]; rfl)⟩
      case round =>
        clear S1
        obtain ⟨k, dk, rfl, hak, hki, hgk, hdk, S1, HD⟩ := hrel
        by_cases hkl : k + 1 < i
        · have hd : decide ((k : Int) < (i : Int) - 1) = true := by simp; omega
          go_wp2_with fail
          obtain ⟨iN2, hiN2⟩ : ∃ q, q = k := ⟨_, rfl⟩
          obtain ⟨jN2, hjN2⟩ : ∃ q, q = k + 1 := ⟨_, rfl⟩
          have ea2 : ((k : Int)).toNat = iN2 := by omega
          have pa2 : (0 : Int) ≤ (k : Int) := by omega
          have ba2 : (k : Int) < (sz : Int) := by omega
          have ec2 : ((k : Int) + 1).toNat = jN2 := by omega
          have pc2 : (0 : Int) ≤ (k : Int) + 1 := by omega
          have bc2 : (k : Int) + 1 < (sz : Int) := by omega
          have rc2 : IntKind.i64.wrap ((k : Int) + 1) = (k : Int) + 1 := by rw [IntKind.wrap_i64]; omega
          obtain ⟨x2, hx2⟩ : ∃ x, x = dk[k]! := ⟨_, rfl⟩
          obtain ⟨y2, hy2⟩ : ∃ x, x = dk[k + 1]! := ⟨_, rfl⟩
          have S2 : Aside (SW encW w0 blk off (swp dk (k) (k + 1)) ((wr.setCell ⟨blk, off + iN2, none⟩ (.int .i64 y2.1)).setCell ⟨blk, off + jN2, none⟩ (.int .i64 x2.1)).drew) := by rw [hiN2, hjN2, hx2, hy2]; exact S1.out.swapped R (k) (k + 1) (by omega) (by omega)
          have c2a : wr.cell? ⟨blk, off + (k), none⟩ = some (.int .i64 (dk[k]!).1) := S1.out.c1 R (by omega) (k) (by omega)
          have c2b : wr.cell? ⟨blk, off + (k + 1), none⟩ = some (.int .i64 (dk[k + 1]!).1) := S1.out.c1 R (by omega) (k + 1) (by omega)
          have f2a := S1.out.f1 R (by omega) (k) (by omega)
          have f2b := S1.out.f1 R (by omega) (k + 1) (by omega)
          obtain ⟨u2, c2c⟩ := S1.out.c2 R (by omega) (k) (k + 1) (by omega) (by omega) (.int .i64 y2.1)
          rw [← hjN2, ← hiN2] at c2c
          rw [← hx2, ← hiN2] at c2a
          rw [← hy2, ← hjN2] at c2b
          rw [← hiN2] at f2a
          rw [← hjN2] at f2b
          clear S1 hx2 hy2 hiN2 hjN2
          go_wp2_with fail
          go_big_region
          clear c2a c2b c2c f2a f2b
          generalize ((wr.setCell ⟨blk, off + iN2, none⟩ (.int .i64 y2.1)).setCell ⟨blk, off + jN2, none⟩ (.int .i64 x2.1)).drew = w2 at S2 ⊢
          clear ea2 ec2
          go_wp2
          go_roundg (i - (k + 1))
          case measure => omega
          case rel => exact ⟨k + 1, swp dk k (k + 1), by go_num, by omega, by omega, by omega, by rw [size_swp]; exact hdk, S2, (show Hid _ from by rw [HD.out, show k + 1 - a = (k - a) + 1 by omega, mvR, show a + (k - a) = k by omega]; rfl)⟩
        · have hd : decide ((k : Int) < (i : Int) - 1) = false := by simp; omega
          go_wp2
          refine bodyPost_ret (results_none rfl _ _ _) rfl ?_
          obtain rfl : k + 1 = i := by omega
          obtain rfl := HM.it
          have Rr := mvR_rot d a (k - a) (by omega)
          rw [← HD.out, show a + (k - a) + 1 = k + 1 by omega] at Rr
          have Pp := mvR_perm d a b a (Nat.le_refl _) (by omega) (k - a) (by omega)
          rw [← HD.out] at Pp
          exact ⟨rfl, dk, S1.out, one_left Rr Pp (by omega) (by omega) HI.out HJ.out⟩

set_option linter.unusedVariables false in
set_option maxHeartbeats 8000000 in
set_option maxRecDepth 1000000 in
theorem symMerge_right (κ : Ky W64) (p blk off cap sz a m b : Nat) (d0 d : Array W64) (w0 w : World) (R : Row1 encW w0 blk off d0) (hs : d0.size = sz) (hds : d.size = sz) (S : SW encW w0 blk off d w) (ham : a < m) (hmb : m < b) (hb : b ≤ sz) (hsz : sz < 4611686018427387904) (hcmp : CmpLays1 Try.prog 59 #[.pointer (some ⟨p, 0, none⟩)] encW (fun x y => κ.k x - κ.k y) blk off sz w0) (hnm : ¬ m = a + 1) (hm : b = m + 1) :
    Calls Try.prog 118 #[.slice (some ⟨blk, off, none⟩) sz cap, .int .i64 a, .int .i64 m, .int .i64 b, .func (.func 59) #[] #[.pointer (some ⟨p, 0, none⟩)]] w fun e w' => e = .returned (.tuple #[]) ∧ ∃ d', SW encW w0 blk off d' w' ∧ Mg κ a m b d d' := by
  have S0 : Aside (SW encW w0 blk off d w) := S
  have HCMP := Kp.mk hcmp
  have mixed : Try.prog.follows .mixedOrders = true := by kernel_rfl
  clear S hcmp
  have h1 : (((m : Int) - (a : Int)) == 1) = false := by rw [beq_eq_false_iff_ne]; omega
  have h2 : (((b : Int) - (m : Int)) == 1) = true := by simp; omega
  have HM := Kp.mk hm
  clear hm hnm
  go_enter Try.func118, Try.ntmps118
  go_wp2
  go_loopg [14, 15] (m - a) (fun g s t wr => ∃ (i j : Nat), s = .int .i64 i ∧ t = .int .i64 j ∧ a ≤ i ∧ i ≤ j ∧ j ≤ m ∧ j - i ≤ g ∧ Aside (SW encW w0 blk off d wr) ∧ Hid (i = a ∨ κ.k d[i - 1]! ≤ κ.k d[m]!) ∧ Hid (j = m ∨ κ.k d[m]! < κ.k d[j]!))
  case atStart => exact ⟨a, m, rfl, rfl, by omega, by omega, by omega, by omega, S0, (show Hid _ from .inl rfl), (show Hid _ from .inl rfl)⟩
  case round =>
    clear S0
    obtain ⟨i, j, rfl, rfl, hmi, hij, hjb, hg, S1, HI, HJ⟩ := hrel
    by_cases hlt : i < j
    · have hltz : (i : Int) < (j : Int) := by omega
      obtain ⟨h, hh⟩ : ∃ h, h = (i + j) / 2 := ⟨_, rfl⟩
      have hhi : i ≤ h := by omega
      have hhj : h < j := by omega
      have hhz : ((i : Int) + (j : Int)) / 2 = (h : Int) := by omega
      clear hh
      by_cases hlv : κ.k d[m]! < κ.k d[h]!
      · have HLV := Kp.mk hlv
        obtain ⟨iN1, hiN1⟩ : ∃ q, q = m := ⟨_, rfl⟩
        obtain ⟨jN1, hjN1⟩ : ∃ q, q = h := ⟨_, rfl⟩
        have ea1 : ((m : Int)).toNat = iN1 := by omega
        have pa1 : (0 : Int) ≤ (m : Int) := by omega
        have ba1 : (m : Int) < (sz : Int) := by omega
        have ec1 : ((h : Int)).toNat = jN1 := by omega
        have pc1 : (0 : Int) ≤ (h : Int) := by omega
        have bc1 : (h : Int) < (sz : Int) := by omega
        obtain ⟨x1, hx1⟩ : ∃ x, x = d[m]! := ⟨_, rfl⟩
        obtain ⟨y1, hy1⟩ : ∃ x, x = d[h]! := ⟨_, rfl⟩
        obtain ⟨z1, hz1⟩ : ∃ z, z = κ.k x1 - κ.k y1 := ⟨_, rfl⟩
        have l1a : ∀ n os, (grow (wr.drewN n) os).cell? ⟨blk, off + iN1, none⟩ = some (.int .i64 x1.1) := fun n os => by rw [hiN1, hx1]; exact S1.out.cl R (by omega) (m) (by omega) n os
        have l1b : ∀ n os, (grow (wr.drewN n) os).cell? ⟨blk, off + jN1, none⟩ = some (.int .i64 y1.1) := fun n os => by rw [hjN1, hy1]; exact S1.out.cl R (by omega) (h) (by omega) n os
        have hc1 : ∀ n os, Calls Try.prog 59 #[.int .i64 x1.1, .int .i64 y1.1, .pointer (some ⟨p, 0, none⟩)] (grow (wr.drewN n) os) fun e w' => e = .returned (.int .i64 z1) ∧ ∃ q os', w' = grow ((grow (wr.drewN n) os).drewN q) os' := fun n os => by rw [hz1]; exact S1.out.cmp HCMP.it (by omega) x1 y1 n os
        have hv1 : decide (z1 < 0) = true := by rw [hz1, hx1, hy1]; simp; omega
        have HCK1 := Kp.mk hc1
        clear hx1 hy1 hiN1 hjN1 hz1 hc1 hlv
        go_wp2_with fail
        go_quiet_grown (first | (go_at_call 59; refine Calls.grown_of (HCK1.it _ _)))
        have S2 : Aside (SW encW w0 blk off d (grow (wr.drewN nq) osq)) := S1.out.grown nq osq
        clear l1a l1b HCK1 S1
        generalize grow (wr.drewN nq) osq = w2 at S2 ⊢
        clear nq osq
        clear ea1 ec1
        go_wp2
        go_roundg (h - i)
        case measure => omega
        case rel => exact ⟨i, h, rfl, rfl, hmi, by omega, by omega, by omega, S2, HI, (show Hid _ from .inr HLV.it)⟩
      · have HLV := Kp.mk (Int.not_lt.1 hlv)
        obtain ⟨iN1, hiN1⟩ : ∃ q, q = m := ⟨_, rfl⟩
        obtain ⟨jN1, hjN1⟩ : ∃ q, q = h := ⟨_, rfl⟩
        have ea1 : ((m : Int)).toNat = iN1 := by omega
        have pa1 : (0 : Int) ≤ (m : Int) := by omega
        have ba1 : (m : Int) < (sz : Int) := by omega
        have ec1 : ((h : Int)).toNat = jN1 := by omega
        have pc1 : (0 : Int) ≤ (h : Int) := by omega
        have bc1 : (h : Int) < (sz : Int) := by omega
        obtain ⟨x1, hx1⟩ : ∃ x, x = d[m]! := ⟨_, rfl⟩
        obtain ⟨y1, hy1⟩ : ∃ x, x = d[h]! := ⟨_, rfl⟩
        obtain ⟨z1, hz1⟩ : ∃ z, z = κ.k x1 - κ.k y1 := ⟨_, rfl⟩
        have l1a : ∀ n os, (grow (wr.drewN n) os).cell? ⟨blk, off + iN1, none⟩ = some (.int .i64 x1.1) := fun n os => by rw [hiN1, hx1]; exact S1.out.cl R (by omega) (m) (by omega) n os
        have l1b : ∀ n os, (grow (wr.drewN n) os).cell? ⟨blk, off + jN1, none⟩ = some (.int .i64 y1.1) := fun n os => by rw [hjN1, hy1]; exact S1.out.cl R (by omega) (h) (by omega) n os
        have hc1 : ∀ n os, Calls Try.prog 59 #[.int .i64 x1.1, .int .i64 y1.1, .pointer (some ⟨p, 0, none⟩)] (grow (wr.drewN n) os) fun e w' => e = .returned (.int .i64 z1) ∧ ∃ q os', w' = grow ((grow (wr.drewN n) os).drewN q) os' := fun n os => by rw [hz1]; exact S1.out.cmp HCMP.it (by omega) x1 y1 n os
        have hv1 : decide (z1 < 0) = false := by rw [hz1, hx1, hy1]; simp; omega
        have HCK1 := Kp.mk hc1
        clear hx1 hy1 hiN1 hjN1 hz1 hc1 hlv
        go_wp2_with fail
        go_quiet_grown (first | (go_at_call 59; refine Calls.grown_of (HCK1.it _ _)))
        have S2 : Aside (SW encW w0 blk off d (grow (wr.drewN nq) osq)) := S1.out.grown nq osq
        clear l1a l1b HCK1 S1
        generalize grow (wr.drewN nq) osq = w2 at S2 ⊢
        clear nq osq
        clear ea1 ec1
        go_wp2
        go_roundg (j - (h + 1))
        case measure => omega
        case rel => exact ⟨h + 1, j, by go_num, rfl, by omega, by omega, hjb, by omega, S2, (show Hid _ from .inr (by rw [Nat.add_sub_cancel]; exact HLV.it)), HJ⟩
    · have hltz : ¬ (i : Int) < (j : Int) := by omega
      obtain rfl : i = j := by omega
      go_wp2
      go_loopg [17] (m - i) (fun g s wr => ∃ (k : Nat) (dk : Array W64), s = .int .i64 k ∧ i ≤ k ∧ k ≤ m ∧ k - i ≤ g ∧ dk.size = sz ∧ Aside (SW encW w0 blk off dk wr) ∧ Hid (dk = mvL d m (m - k)))
      case atStart => exact ⟨m, d, rfl, by omega, by omega, by omega, hds, S1, (show Hid _ from by rw [Nat.sub_self]; rfl)⟩
      case round =>
        clear S1
        obtain ⟨k, dk, rfl, hik, hkm, hgk, hdk, S1, HD⟩ := hrel
        by_cases hkl : i < k
        · have hd : decide ((k : Int) > (i : Int)) = true := by simp; omega
          have hd' : (i : Int) < (k : Int) := by omega
          go_wp2_with fail
          obtain ⟨iN2, hiN2⟩ : ∃ q, q = k := ⟨_, rfl⟩
          obtain ⟨jN2, hjN2⟩ : ∃ q, q = k - 1 := ⟨_, rfl⟩
          have ea2 : ((k : Int)).toNat = iN2 := by omega
          have pa2 : (0 : Int) ≤ (k : Int) := by omega
          have ba2 : (k : Int) < (sz : Int) := by omega
          have ec2 : ((k : Int) - 1).toNat = jN2 := by omega
          have pc2 : (0 : Int) ≤ (k : Int) - 1 := by omega
          have bc2 : (k : Int) - 1 < (sz : Int) := by omega
          have rc2 : IntKind.i64.wrap ((k : Int) - 1) = (k : Int) - 1 := by rw [IntKind.wrap_i64]; omega
          obtain ⟨x2, hx2⟩ : ∃ x, x = dk[k]! := ⟨_, rfl⟩
          obtain ⟨y2, hy2⟩ : ∃ x, x = dk[k - 1]! := ⟨_, rfl⟩
          have S2 : Aside (SW encW w0 blk off (swp dk (k) (k - 1)) ((wr.setCell ⟨blk, off + iN2, none⟩ (.int .i64 y2.1)).setCell ⟨blk, off + jN2, none⟩ (.int .i64 x2.1)).drew) := by rw [hiN2, hjN2, hx2, hy2]; exact S1.out.swapped R (k) (k - 1) (by omega) (by omega)
          have c2a : wr.cell? ⟨blk, off + (k), none⟩ = some (.int .i64 (dk[k]!).1) := S1.out.c1 R (by omega) (k) (by omega)
          have c2b : wr.cell? ⟨blk, off + (k - 1), none⟩ = some (.int .i64 (dk[k - 1]!).1) := S1.out.c1 R (by omega) (k - 1) (by omega)
          have f2a := S1.out.f1 R (by omega) (k) (by omega)
          have f2b := S1.out.f1 R (by omega) (k - 1) (by omega)
          obtain ⟨u2, c2c⟩ := S1.out.c2 R (by omega) (k) (k - 1) (by omega) (by omega) (.int .i64 y2.1)
          rw [← hjN2, ← hiN2] at c2c
          rw [← hx2, ← hiN2] at c2a
          rw [← hy2, ← hjN2] at c2b
          rw [← hiN2] at f2a
          rw [← hjN2] at f2b
          clear S1 hx2 hy2 hiN2 hjN2
          go_wp2_with fail
          go_big_region
          clear c2a c2b c2c f2a f2b
          generalize ((wr.setCell ⟨blk, off + iN2, none⟩ (.int .i64 y2.1)).setCell ⟨blk, off + jN2, none⟩ (.int .i64 x2.1)).drew = w2 at S2 ⊢
          clear ea2 ec2
          go_wp2
          go_roundg (k - 1 - i)
          case measure => omega
          case rel => exact ⟨k - 1, swp dk k (k - 1), by congr 1; omega, by omega, by omega, by omega, by rw [size_swp]; exact hdk, S2, (show Hid _ from by rw [HD.out, show m - (k - 1) = (m - k) + 1 by omega, mvL, show m - (m - k) = k by omega]; rfl)⟩
        · have hd : decide ((k : Int) > (i : Int)) = false := by simp; omega
          have hd' : ¬ (i : Int) < (k : Int) := by omega
          go_wp2
          refine bodyPost_ret (results_none rfl _ _ _) rfl ?_
          obtain rfl : k = i := by omega
          obtain rfl := HM.it
          have Rr := mvL_rot d m (m - k) (by omega) (by omega)
          rw [← HD.out, show m - (m - k) = k by omega] at Rr
          have Pp := mvL_perm d a (m + 1) m (by omega) (by omega) (m - k) (by omega)
          rw [← HD.out] at Pp
          exact ⟨rfl, dk, S1.out, one_right Rr Pp (by omega) (by omega) HI.out HJ.out⟩

set_option linter.unusedVariables false in
set_option maxHeartbeats 8000000 in
set_option maxRecDepth 1000000 in
theorem symMerge_any (N : Nat) : ∀ (κ : Ky W64) (p blk off cap sz a m b : Nat) (d0 d : Array W64) (w0 w : World) (R : Row1 encW w0 blk off d0) (hs : d0.size = sz) (hds : d.size = sz) (S : SW encW w0 blk off d w) (ham : a < m) (hmb : m < b) (hb : b ≤ sz) (hsz : sz < 4611686018427387904) (hcmp : CmpLays1 Try.prog 59 #[.pointer (some ⟨p, 0, none⟩)] encW (fun x y => κ.k x - κ.k y) blk off sz w0) (hN : b - a ≤ N),
    Calls Try.prog 118 #[.slice (some ⟨blk, off, none⟩) sz cap, .int .i64 a, .int .i64 m, .int .i64 b, .func (.func 59) #[] #[.pointer (some ⟨p, 0, none⟩)]] w fun e w' => e = .returned (.tuple #[]) ∧ ∃ d', SW encW w0 blk off d' w' ∧ Mg κ a m b d d' := by
  induction N with
  | zero => intro κ p blk off cap sz a m b d0 d w0 w R hs hds S ham hmb hb hsz hcmp hN; omega
  | succ N IH =>
    intro κ p blk off cap sz a m b d0 d w0 w R hs hds S ham hmb hb hsz hcmp hN
    by_cases hm1 : m = a + 1
    · exact symMerge_left κ p blk off cap sz a m b d0 d w0 w R hs hds S ham hmb hb hsz hcmp hm1
    by_cases hm2 : b = m + 1
    · exact symMerge_right κ p blk off cap sz a m b d0 d w0 w R hs hds S ham hmb hb hsz hcmp hm1 hm2
    have h1 : (((m : Int) - (a : Int)) == 1) = false := by rw [beq_eq_false_iff_ne]; omega
    have h2 : (((b : Int) - (m : Int)) == 1) = false := by rw [beq_eq_false_iff_ne]; omega
    have KIH := Kp.mk IH
    obtain ⟨mid, hmd⟩ : ∃ mid, mid = (a + b) / 2 := ⟨_, rfl⟩
    have hmid1 : 2 * mid ≤ a + b := by omega
    have hmid2 : a + b ≤ 2 * mid + 1 := by omega
    have hmz : ((a : Int) + (b : Int)) / 2 = (mid : Int) := by omega
    clear hmd IH hm1 hm2
    have S0 : Aside (SW encW w0 blk off d w) := S
    have HCMP := Kp.mk hcmp
    have mixed : Try.prog.follows .mixedOrders = true := by kernel_rfl
    clear S hcmp
    by_cases hbig : mid < m
    · have hbz : (mid : Int) < (m : Int) := by omega
      have hbd : decide ((m : Int) > (mid : Int)) = true := by simp; omega
      go_enter Try.func118, Try.ntmps118
      go_wp2
      go_loopg [20, 21] (m + b) (fun g s t wr => ∃ (st r : Nat), s = .int .i64 st ∧ t = .int .i64 r ∧ mid + m - b ≤ st ∧ st ≤ r ∧ r ≤ mid ∧ r - st ≤ g ∧ Aside (SW encW w0 blk off d wr) ∧ Hid (st = mid + m - b ∨ κ.k d[st - 1]! ≤ κ.k d[mid + m - st]!) ∧ Hid (r = mid ∨ κ.k d[mid + m - 1 - r]! < κ.k d[r]!))
      case atStart => exact ⟨mid + m - b, mid, by first | rfl | (congr 1; omega), rfl, by omega, by omega, by omega, by omega, S0, (show Hid _ from .inl rfl), (show Hid _ from .inl rfl)⟩
      case round =>
        clear S0
        obtain ⟨st, r, rfl, rfl, hst, hsr, hrr, hg, S1, HI, HJ⟩ := hrel
        by_cases hlt : st < r
        · have hltz : (st : Int) < (r : Int) := by omega
          obtain ⟨c, hc⟩ : ∃ c, c = (st + r) / 2 := ⟨_, rfl⟩
          have hcs : st ≤ c := by omega
          have hcr : c < r := by omega
          have hcz : ((st : Int) + (r : Int)) / 2 = (c : Int) := by omega
          clear hc
          by_cases hlv : κ.k d[mid + m - 1 - c]! < κ.k d[c]!
          · have HLV := Kp.mk hlv
            obtain ⟨iN1, hiN1⟩ : ∃ q, q = mid + m - 1 - c := ⟨_, rfl⟩
            obtain ⟨jN1, hjN1⟩ : ∃ q, q = c := ⟨_, rfl⟩
            have ra1 : IntKind.i64.wrap ((mid : Int) + (m : Int) - 1 - (c : Int)) = (iN1 : Int) := by rw [IntKind.wrap_i64]; omega
            have ea1 : ((iN1 : Int)).toNat = iN1 := by omega
            have pa1 : (0 : Int) ≤ (iN1 : Int) := by omega
            have ba1 : (iN1 : Int) < (sz : Int) := by omega
            have ec1 : ((c : Int)).toNat = jN1 := by omega
            have pc1 : (0 : Int) ≤ (c : Int) := by omega
            have bc1 : (c : Int) < (sz : Int) := by omega
            obtain ⟨x1, hx1⟩ : ∃ x, x = d[mid + m - 1 - c]! := ⟨_, rfl⟩
            obtain ⟨y1, hy1⟩ : ∃ x, x = d[c]! := ⟨_, rfl⟩
            obtain ⟨z1, hz1⟩ : ∃ z, z = κ.k x1 - κ.k y1 := ⟨_, rfl⟩
            have l1a : ∀ n os, (grow (wr.drewN n) os).cell? ⟨blk, off + iN1, none⟩ = some (.int .i64 x1.1) := fun n os => by rw [hiN1, hx1]; exact S1.out.cl R (by omega) (mid + m - 1 - c) (by omega) n os
            have l1b : ∀ n os, (grow (wr.drewN n) os).cell? ⟨blk, off + jN1, none⟩ = some (.int .i64 y1.1) := fun n os => by rw [hjN1, hy1]; exact S1.out.cl R (by omega) (c) (by omega) n os
            have hc1 : ∀ n os, Calls Try.prog 59 #[.int .i64 x1.1, .int .i64 y1.1, .pointer (some ⟨p, 0, none⟩)] (grow (wr.drewN n) os) fun e w' => e = .returned (.int .i64 z1) ∧ ∃ q os', w' = grow ((grow (wr.drewN n) os).drewN q) os' := fun n os => by rw [hz1]; exact S1.out.cmp HCMP.it (by omega) x1 y1 n os
            have hv1 : decide (z1 < 0) = true := by rw [hz1, hx1, hy1]; simp; omega
            have HCK1 := Kp.mk hc1
            clear hx1 hy1 hiN1 hjN1 hz1 hc1 hlv
            go_wp2_with fail
            go_quiet_grown (first | (go_at_call 59; refine Calls.grown_of (HCK1.it _ _)))
            have S2 : Aside (SW encW w0 blk off d (grow (wr.drewN nq) osq)) := S1.out.grown nq osq
            clear l1a l1b HCK1 S1
            generalize grow (wr.drewN nq) osq = w2 at S2 ⊢
            clear nq osq
            clear ea1 ec1
            go_wp2
            go_roundg (c - st)
            case measure => omega
            case rel => exact ⟨st, c, rfl, rfl, hst, by omega, by omega, by omega, S2, HI, (show Hid _ from .inr HLV.it)⟩
          · have HLV := Kp.mk (Int.not_lt.1 hlv)
            obtain ⟨iN1, hiN1⟩ : ∃ q, q = mid + m - 1 - c := ⟨_, rfl⟩
            obtain ⟨jN1, hjN1⟩ : ∃ q, q = c := ⟨_, rfl⟩
            have ra1 : IntKind.i64.wrap ((mid : Int) + (m : Int) - 1 - (c : Int)) = (iN1 : Int) := by rw [IntKind.wrap_i64]; omega
            have ea1 : ((iN1 : Int)).toNat = iN1 := by omega
            have pa1 : (0 : Int) ≤ (iN1 : Int) := by omega
            have ba1 : (iN1 : Int) < (sz : Int) := by omega
            have ec1 : ((c : Int)).toNat = jN1 := by omega
            have pc1 : (0 : Int) ≤ (c : Int) := by omega
            have bc1 : (c : Int) < (sz : Int) := by omega
            obtain ⟨x1, hx1⟩ : ∃ x, x = d[mid + m - 1 - c]! := ⟨_, rfl⟩
            obtain ⟨y1, hy1⟩ : ∃ x, x = d[c]! := ⟨_, rfl⟩
            obtain ⟨z1, hz1⟩ : ∃ z, z = κ.k x1 - κ.k y1 := ⟨_, rfl⟩
            have l1a : ∀ n os, (grow (wr.drewN n) os).cell? ⟨blk, off + iN1, none⟩ = some (.int .i64 x1.1) := fun n os => by rw [hiN1, hx1]; exact S1.out.cl R (by omega) (mid + m - 1 - c) (by omega) n os
            have l1b : ∀ n os, (grow (wr.drewN n) os).cell? ⟨blk, off + jN1, none⟩ = some (.int .i64 y1.1) := fun n os => by rw [hjN1, hy1]; exact S1.out.cl R (by omega) (c) (by omega) n os
            have hc1 : ∀ n os, Calls Try.prog 59 #[.int .i64 x1.1, .int .i64 y1.1, .pointer (some ⟨p, 0, none⟩)] (grow (wr.drewN n) os) fun e w' => e = .returned (.int .i64 z1) ∧ ∃ q os', w' = grow ((grow (wr.drewN n) os).drewN q) os' := fun n os => by rw [hz1]; exact S1.out.cmp HCMP.it (by omega) x1 y1 n os
            have hv1 : decide (z1 < 0) = false := by rw [hz1, hx1, hy1]; simp; omega
            have HCK1 := Kp.mk hc1
            clear hx1 hy1 hiN1 hjN1 hz1 hc1 hlv
            go_wp2_with fail
            go_quiet_grown (first | (go_at_call 59; refine Calls.grown_of (HCK1.it _ _)))
            have S2 : Aside (SW encW w0 blk off d (grow (wr.drewN nq) osq)) := S1.out.grown nq osq
            clear l1a l1b HCK1 S1
            generalize grow (wr.drewN nq) osq = w2 at S2 ⊢
            clear nq osq
            clear ea1 ec1
            go_wp2
            go_roundg (r - (c + 1))
            case measure => omega
            case rel => exact ⟨c + 1, r, by go_num, rfl, by omega, by omega, hrr, by omega, S2, (show Hid _ from .inr (by rw [show mid + m - (c + 1) = mid + m - 1 - c by omega, Nat.add_sub_cancel]; exact HLV.it)), HJ⟩
        · have hltz : ¬ (st : Int) < (r : Int) := by omega
          obtain rfl : st = r := by omega
          obtain ⟨e, he⟩ : ∃ e, e = mid + m - st := ⟨_, rfl⟩
          have hez : (mid : Int) + (m : Int) - (st : Int) = (e : Int) := by omega
          have c1 : st = a ∨ e = b ∨ κ.k d[st - 1]! ≤ κ.k d[e]! := by
            rcases HI.out with h | h
            · right; left; omega
            · right; right; rw [he]; exact h
          have c2 : st = m ∨ e = m ∨ κ.k d[e - 1]! < κ.k d[st]! := by
            rcases HJ.out with h | h
            · right; left; omega
            · right; right; rw [show e - 1 = mid + m - 1 - st by omega]; exact h
          have C1 := Kp.mk c1
          have C2 := Kp.mk c2
          have ge1 : a ≤ st := by omega
          have ge2 : st ≤ m := by omega
          have ge3 : m ≤ e := by omega
          have ge4 : e ≤ b := by omega
          have ge5 : st ≤ mid := by omega
          have ge6 : mid ≤ e := by omega
          have HS : Kp (st + (e - m) = mid) := ⟨by omega⟩
          clear c1 c2 HI HJ he hst hsr hrr hg hlt
          have hst : True := trivial
          by_cases l0 : st < m
          · by_cases l0' : m < e
            · have q0a : decide ((st : Int) < (m : Int)) = true := by simp; omega
              have q0b : decide ((m : Int) < (e : Int)) = true := by simp; omega
              have q0c : (st : Int) < (m : Int) := by omega
              have q0d : (m : Int) < (e : Int) := by omega
              have HCL := Kp.mk (rotate_any blk off cap sz st m e (.func (.func 59) #[] #[.pointer (some ⟨p, 0, none⟩)]) d0 d w0 wr R hs (by omega) S1.out (by omega) (by omega) (by omega) hsz)
              go_wp2_with fail
              refine HCL.it.mono ?_
              rintro e1 w3 ⟨rfl, d1, S3, Rr, Pp⟩
              have S4 : Aside (SW encW w0 blk off d1 w3) := S3
              have HR1 := Kp.mk Rr
              have HP1 := Kp.mk (permIn_mono _ _ st e a b ge1 ge4 (by omega) Pp)
              have hd1 : d1.size = sz := by rw [← hds]; exact Rr.size
              clear S3 Rr Pp HCL S1 q0a q0b q0c q0d
              by_cases l1 : a < st
              · by_cases l1' : st < mid
                · have q1a : decide ((a : Int) < (st : Int)) = true := by simp; omega
                  have q1b : decide ((st : Int) < (mid : Int)) = true := by simp; omega
                  have q1c : (a : Int) < (st : Int) := by omega
                  have q1d : (st : Int) < (mid : Int) := by omega
                  have HCL := Kp.mk (KIH.it κ p blk off cap sz a st mid d0 d1 w0 w3 R hs (by omega) S4.out (by omega) (by omega) (by omega) hsz HCMP.it (by omega))
                  go_wp2_with fail
                  refine HCL.it.mono ?_
                  rintro e2 w4 ⟨rfl, d2, S3, Mm⟩
                  have S6 : Aside (SW encW w0 blk off d2 w4) := S3
                  have HM1 := Kp.mk Mm
                  have hd2 : d2.size = sz := by have h9 := Mm.1.1; omega
                  clear S3 Mm HCL S4 q1a q1b q1c q1d
                  by_cases l2 : mid < e
                  · by_cases l2' : e < b
                    · have q2a : decide ((mid : Int) < (e : Int)) = true := by simp; omega
                      have q2b : decide ((e : Int) < (b : Int)) = true := by simp; omega
                      have q2c : (mid : Int) < (e : Int) := by omega
                      have q2d : (e : Int) < (b : Int) := by omega
                      have HCL := Kp.mk (KIH.it κ p blk off cap sz mid e b d0 d2 w0 w4 R hs (by omega) S6.out (by omega) (by omega) (by omega) hsz HCMP.it (by omega))
                      go_wp2_with fail
                      refine HCL.it.mono ?_
                      rintro e3 w5 ⟨rfl, d3, S3, Mm⟩
                      have S8 : Aside (SW encW w0 blk off d3 w5) := S3
                      have HM2 := Kp.mk Mm
                      have hd3 : d3.size = sz := by have h9 := Mm.1.1; omega
                      clear S3 Mm HCL S6 q2a q2b q2c q2d
                      go_wp2
                      go_end0
                      exact ⟨rfl, _, S8.out, sym_join (by omega) HR1.it HP1.it ge1 ge2 ge3 ge4 HS.it C1.it C2.it HM1.it HM2.it⟩
                    · have q2a : decide ((mid : Int) < (e : Int)) = true := by simp; omega
                      have q2b : decide ((e : Int) < (b : Int)) = false := by simp; omega
                      have q2c : (mid : Int) < (e : Int) := by omega
                      have q2d : ¬ (e : Int) < (b : Int) := by omega
                      have HM2 : Kp (Mg κ mid e b d2 d2) := ⟨mg_right' (by omega)⟩
                      go_wp2
                      go_end0
                      exact ⟨rfl, _, S6.out, sym_join (by omega) HR1.it HP1.it ge1 ge2 ge3 ge4 HS.it C1.it C2.it HM1.it HM2.it⟩
                  · have q2a : decide ((mid : Int) < (e : Int)) = false := by simp; omega
                    have q2c : ¬ (mid : Int) < (e : Int) := by omega
                    have HM2 : Kp (Mg κ mid e b d2 d2) := ⟨mg_left' (by omega)⟩
                    go_wp2
                    go_end0
                    exact ⟨rfl, _, S6.out, sym_join (by omega) HR1.it HP1.it ge1 ge2 ge3 ge4 HS.it C1.it C2.it HM1.it HM2.it⟩
                · have q1a : decide ((a : Int) < (st : Int)) = true := by simp; omega
                  have q1b : decide ((st : Int) < (mid : Int)) = false := by simp; omega
                  have q1c : (a : Int) < (st : Int) := by omega
                  have q1d : ¬ (st : Int) < (mid : Int) := by omega
                  have HM1 : Kp (Mg κ a st mid d1 d1) := ⟨mg_right' (by omega)⟩
                  by_cases l2 : mid < e
                  · by_cases l2' : e < b
                    · have q2a : decide ((mid : Int) < (e : Int)) = true := by simp; omega
                      have q2b : decide ((e : Int) < (b : Int)) = true := by simp; omega
                      have q2c : (mid : Int) < (e : Int) := by omega
                      have q2d : (e : Int) < (b : Int) := by omega
                      have HCL := Kp.mk (KIH.it κ p blk off cap sz mid e b d0 d1 w0 w3 R hs (by omega) S4.out (by omega) (by omega) (by omega) hsz HCMP.it (by omega))
                      go_wp2_with fail
                      refine HCL.it.mono ?_
                      rintro e3 w5 ⟨rfl, d3, S3, Mm⟩
                      have S8 : Aside (SW encW w0 blk off d3 w5) := S3
                      have HM2 := Kp.mk Mm
                      have hd3 : d3.size = sz := by have h9 := Mm.1.1; omega
                      clear S3 Mm HCL S4 q2a q2b q2c q2d
                      go_wp2
                      go_end0
                      exact ⟨rfl, _, S8.out, sym_join (by omega) HR1.it HP1.it ge1 ge2 ge3 ge4 HS.it C1.it C2.it HM1.it HM2.it⟩
                    · have q2a : decide ((mid : Int) < (e : Int)) = true := by simp; omega
                      have q2b : decide ((e : Int) < (b : Int)) = false := by simp; omega
                      have q2c : (mid : Int) < (e : Int) := by omega
                      have q2d : ¬ (e : Int) < (b : Int) := by omega
                      have HM2 : Kp (Mg κ mid e b d1 d1) := ⟨mg_right' (by omega)⟩
                      go_wp2
                      go_end0
                      exact ⟨rfl, _, S4.out, sym_join (by omega) HR1.it HP1.it ge1 ge2 ge3 ge4 HS.it C1.it C2.it HM1.it HM2.it⟩
                  · have q2a : decide ((mid : Int) < (e : Int)) = false := by simp; omega
                    have q2c : ¬ (mid : Int) < (e : Int) := by omega
                    have HM2 : Kp (Mg κ mid e b d1 d1) := ⟨mg_left' (by omega)⟩
                    go_wp2
                    go_end0
                    exact ⟨rfl, _, S4.out, sym_join (by omega) HR1.it HP1.it ge1 ge2 ge3 ge4 HS.it C1.it C2.it HM1.it HM2.it⟩
              · have q1a : decide ((a : Int) < (st : Int)) = false := by simp; omega
                have q1c : ¬ (a : Int) < (st : Int) := by omega
                have HM1 : Kp (Mg κ a st mid d1 d1) := ⟨mg_left' (by omega)⟩
                by_cases l2 : mid < e
                · by_cases l2' : e < b
                  · have q2a : decide ((mid : Int) < (e : Int)) = true := by simp; omega
                    have q2b : decide ((e : Int) < (b : Int)) = true := by simp; omega
                    have q2c : (mid : Int) < (e : Int) := by omega
                    have q2d : (e : Int) < (b : Int) := by omega
                    have HCL := Kp.mk (KIH.it κ p blk off cap sz mid e b d0 d1 w0 w3 R hs (by omega) S4.out (by omega) (by omega) (by omega) hsz HCMP.it (by omega))
                    go_wp2_with fail
                    refine HCL.it.mono ?_
                    rintro e3 w5 ⟨rfl, d3, S3, Mm⟩
                    have S8 : Aside (SW encW w0 blk off d3 w5) := S3
                    have HM2 := Kp.mk Mm
                    have hd3 : d3.size = sz := by have h9 := Mm.1.1; omega
                    clear S3 Mm HCL S4 q2a q2b q2c q2d
                    go_wp2
                    go_end0
                    exact ⟨rfl, _, S8.out, sym_join (by omega) HR1.it HP1.it ge1 ge2 ge3 ge4 HS.it C1.it C2.it HM1.it HM2.it⟩
                  · have q2a : decide ((mid : Int) < (e : Int)) = true := by simp; omega
                    have q2b : decide ((e : Int) < (b : Int)) = false := by simp; omega
                    have q2c : (mid : Int) < (e : Int) := by omega
                    have q2d : ¬ (e : Int) < (b : Int) := by omega
                    have HM2 : Kp (Mg κ mid e b d1 d1) := ⟨mg_right' (by omega)⟩
                    go_wp2
                    go_end0
                    exact ⟨rfl, _, S4.out, sym_join (by omega) HR1.it HP1.it ge1 ge2 ge3 ge4 HS.it C1.it C2.it HM1.it HM2.it⟩
                · have q2a : decide ((mid : Int) < (e : Int)) = false := by simp; omega
                  have q2c : ¬ (mid : Int) < (e : Int) := by omega
                  have HM2 : Kp (Mg κ mid e b d1 d1) := ⟨mg_left' (by omega)⟩
                  go_wp2
                  go_end0
                  exact ⟨rfl, _, S4.out, sym_join (by omega) HR1.it HP1.it ge1 ge2 ge3 ge4 HS.it C1.it C2.it HM1.it HM2.it⟩
            · have q0a : decide ((st : Int) < (m : Int)) = true := by simp; omega
              have q0b : decide ((m : Int) < (e : Int)) = false := by simp; omega
              have q0c : (st : Int) < (m : Int) := by omega
              have q0d : ¬ (m : Int) < (e : Int) := by omega
              have HR1 : Kp (Rot st m e d d) := ⟨Rot.idr (by omega)⟩
              by_cases l1 : a < st
              · by_cases l1' : st < mid
                · have q1a : decide ((a : Int) < (st : Int)) = true := by simp; omega
                  have q1b : decide ((st : Int) < (mid : Int)) = true := by simp; omega
                  have q1c : (a : Int) < (st : Int) := by omega
                  have q1d : (st : Int) < (mid : Int) := by omega
                  have HCL := Kp.mk (KIH.it κ p blk off cap sz a st mid d0 d w0 wr R hs (by omega) S1.out (by omega) (by omega) (by omega) hsz HCMP.it (by omega))
                  go_wp2_with fail
                  refine HCL.it.mono ?_
                  rintro e2 w4 ⟨rfl, d2, S3, Mm⟩
                  have S6 : Aside (SW encW w0 blk off d2 w4) := S3
                  have HM1 := Kp.mk Mm
                  have hd2 : d2.size = sz := by have h9 := Mm.1.1; omega
                  clear S3 Mm HCL S1 q1a q1b q1c q1d
                  by_cases l2 : mid < e
                  · by_cases l2' : e < b
                    · have q2a : decide ((mid : Int) < (e : Int)) = true := by simp; omega
                      have q2b : decide ((e : Int) < (b : Int)) = true := by simp; omega
                      have q2c : (mid : Int) < (e : Int) := by omega
                      have q2d : (e : Int) < (b : Int) := by omega
                      have HCL := Kp.mk (KIH.it κ p blk off cap sz mid e b d0 d2 w0 w4 R hs (by omega) S6.out (by omega) (by omega) (by omega) hsz HCMP.it (by omega))
                      go_wp2_with fail
                      refine HCL.it.mono ?_
                      rintro e3 w5 ⟨rfl, d3, S3, Mm⟩
                      have S8 : Aside (SW encW w0 blk off d3 w5) := S3
                      have HM2 := Kp.mk Mm
                      have hd3 : d3.size = sz := by have h9 := Mm.1.1; omega
                      clear S3 Mm HCL S6 q2a q2b q2c q2d
                      go_wp2
                      go_end0
                      exact ⟨rfl, _, S8.out, sym_join (by omega) HR1.it (permIn_refl d a b) ge1 ge2 ge3 ge4 HS.it C1.it C2.it HM1.it HM2.it⟩
                    · have q2a : decide ((mid : Int) < (e : Int)) = true := by simp; omega
                      have q2b : decide ((e : Int) < (b : Int)) = false := by simp; omega
                      have q2c : (mid : Int) < (e : Int) := by omega
                      have q2d : ¬ (e : Int) < (b : Int) := by omega
                      have HM2 : Kp (Mg κ mid e b d2 d2) := ⟨mg_right' (by omega)⟩
                      go_wp2
                      go_end0
                      exact ⟨rfl, _, S6.out, sym_join (by omega) HR1.it (permIn_refl d a b) ge1 ge2 ge3 ge4 HS.it C1.it C2.it HM1.it HM2.it⟩
                  · have q2a : decide ((mid : Int) < (e : Int)) = false := by simp; omega
                    have q2c : ¬ (mid : Int) < (e : Int) := by omega
                    have HM2 : Kp (Mg κ mid e b d2 d2) := ⟨mg_left' (by omega)⟩
                    go_wp2
                    go_end0
                    exact ⟨rfl, _, S6.out, sym_join (by omega) HR1.it (permIn_refl d a b) ge1 ge2 ge3 ge4 HS.it C1.it C2.it HM1.it HM2.it⟩
                · have q1a : decide ((a : Int) < (st : Int)) = true := by simp; omega
                  have q1b : decide ((st : Int) < (mid : Int)) = false := by simp; omega
                  have q1c : (a : Int) < (st : Int) := by omega
                  have q1d : ¬ (st : Int) < (mid : Int) := by omega
                  have HM1 : Kp (Mg κ a st mid d d) := ⟨mg_right' (by omega)⟩
                  by_cases l2 : mid < e
                  · by_cases l2' : e < b
                    · have q2a : decide ((mid : Int) < (e : Int)) = true := by simp; omega
                      have q2b : decide ((e : Int) < (b : Int)) = true := by simp; omega
                      have q2c : (mid : Int) < (e : Int) := by omega
                      have q2d : (e : Int) < (b : Int) := by omega
                      have HCL := Kp.mk (KIH.it κ p blk off cap sz mid e b d0 d w0 wr R hs (by omega) S1.out (by omega) (by omega) (by omega) hsz HCMP.it (by omega))
                      go_wp2_with fail
                      refine HCL.it.mono ?_
                      rintro e3 w5 ⟨rfl, d3, S3, Mm⟩
                      have S8 : Aside (SW encW w0 blk off d3 w5) := S3
                      have HM2 := Kp.mk Mm
                      have hd3 : d3.size = sz := by have h9 := Mm.1.1; omega
                      clear S3 Mm HCL S1 q2a q2b q2c q2d
                      go_wp2
                      go_end0
                      exact ⟨rfl, _, S8.out, sym_join (by omega) HR1.it (permIn_refl d a b) ge1 ge2 ge3 ge4 HS.it C1.it C2.it HM1.it HM2.it⟩
                    · have q2a : decide ((mid : Int) < (e : Int)) = true := by simp; omega
                      have q2b : decide ((e : Int) < (b : Int)) = false := by simp; omega
                      have q2c : (mid : Int) < (e : Int) := by omega
                      have q2d : ¬ (e : Int) < (b : Int) := by omega
                      have HM2 : Kp (Mg κ mid e b d d) := ⟨mg_right' (by omega)⟩
                      go_wp2
                      go_end0
                      exact ⟨rfl, _, S1.out, sym_join (by omega) HR1.it (permIn_refl d a b) ge1 ge2 ge3 ge4 HS.it C1.it C2.it HM1.it HM2.it⟩
                  · have q2a : decide ((mid : Int) < (e : Int)) = false := by simp; omega
                    have q2c : ¬ (mid : Int) < (e : Int) := by omega
                    have HM2 : Kp (Mg κ mid e b d d) := ⟨mg_left' (by omega)⟩
                    go_wp2
                    go_end0
                    exact ⟨rfl, _, S1.out, sym_join (by omega) HR1.it (permIn_refl d a b) ge1 ge2 ge3 ge4 HS.it C1.it C2.it HM1.it HM2.it⟩
              · have q1a : decide ((a : Int) < (st : Int)) = false := by simp; omega
                have q1c : ¬ (a : Int) < (st : Int) := by omega
                have HM1 : Kp (Mg κ a st mid d d) := ⟨mg_left' (by omega)⟩
                by_cases l2 : mid < e
                · by_cases l2' : e < b
                  · have q2a : decide ((mid : Int) < (e : Int)) = true := by simp; omega
                    have q2b : decide ((e : Int) < (b : Int)) = true := by simp; omega
                    have q2c : (mid : Int) < (e : Int) := by omega
                    have q2d : (e : Int) < (b : Int) := by omega
                    have HCL := Kp.mk (KIH.it κ p blk off cap sz mid e b d0 d w0 wr R hs (by omega) S1.out (by omega) (by omega) (by omega) hsz HCMP.it (by omega))
                    go_wp2_with fail
                    refine HCL.it.mono ?_
                    rintro e3 w5 ⟨rfl, d3, S3, Mm⟩
                    have S8 : Aside (SW encW w0 blk off d3 w5) := S3
                    have HM2 := Kp.mk Mm
                    have hd3 : d3.size = sz := by have h9 := Mm.1.1; omega
                    clear S3 Mm HCL S1 q2a q2b q2c q2d
                    go_wp2
                    go_end0
                    exact ⟨rfl, _, S8.out, sym_join (by omega) HR1.it (permIn_refl d a b) ge1 ge2 ge3 ge4 HS.it C1.it C2.it HM1.it HM2.it⟩
                  · have q2a : decide ((mid : Int) < (e : Int)) = true := by simp; omega
                    have q2b : decide ((e : Int) < (b : Int)) = false := by simp; omega
                    have q2c : (mid : Int) < (e : Int) := by omega
                    have q2d : ¬ (e : Int) < (b : Int) := by omega
                    have HM2 : Kp (Mg κ mid e b d d) := ⟨mg_right' (by omega)⟩
                    go_wp2
                    go_end0
                    exact ⟨rfl, _, S1.out, sym_join (by omega) HR1.it (permIn_refl d a b) ge1 ge2 ge3 ge4 HS.it C1.it C2.it HM1.it HM2.it⟩
                · have q2a : decide ((mid : Int) < (e : Int)) = false := by simp; omega
                  have q2c : ¬ (mid : Int) < (e : Int) := by omega
                  have HM2 : Kp (Mg κ mid e b d d) := ⟨mg_left' (by omega)⟩
                  go_wp2
                  go_end0
                  exact ⟨rfl, _, S1.out, sym_join (by omega) HR1.it (permIn_refl d a b) ge1 ge2 ge3 ge4 HS.it C1.it C2.it HM1.it HM2.it⟩
          · have q0a : decide ((st : Int) < (m : Int)) = false := by simp; omega
            have q0c : ¬ (st : Int) < (m : Int) := by omega
            have HR1 : Kp (Rot st m e d d) := ⟨Rot.idl (by omega)⟩
            by_cases l1 : a < st
            · by_cases l1' : st < mid
              · have q1a : decide ((a : Int) < (st : Int)) = true := by simp; omega
                have q1b : decide ((st : Int) < (mid : Int)) = true := by simp; omega
                have q1c : (a : Int) < (st : Int) := by omega
                have q1d : (st : Int) < (mid : Int) := by omega
                have HCL := Kp.mk (KIH.it κ p blk off cap sz a st mid d0 d w0 wr R hs (by omega) S1.out (by omega) (by omega) (by omega) hsz HCMP.it (by omega))
                go_wp2_with fail
                refine HCL.it.mono ?_
                rintro e2 w4 ⟨rfl, d2, S3, Mm⟩
                have S6 : Aside (SW encW w0 blk off d2 w4) := S3
                have HM1 := Kp.mk Mm
                have hd2 : d2.size = sz := by have h9 := Mm.1.1; omega
                clear S3 Mm HCL S1 q1a q1b q1c q1d
                by_cases l2 : mid < e
                · by_cases l2' : e < b
                  · have q2a : decide ((mid : Int) < (e : Int)) = true := by simp; omega
                    have q2b : decide ((e : Int) < (b : Int)) = true := by simp; omega
                    have q2c : (mid : Int) < (e : Int) := by omega
                    have q2d : (e : Int) < (b : Int) := by omega
                    have HCL := Kp.mk (KIH.it κ p blk off cap sz mid e b d0 d2 w0 w4 R hs (by omega) S6.out (by omega) (by omega) (by omega) hsz HCMP.it (by omega))
                    go_wp2_with fail
                    refine HCL.it.mono ?_
                    rintro e3 w5 ⟨rfl, d3, S3, Mm⟩
                    have S8 : Aside (SW encW w0 blk off d3 w5) := S3
                    have HM2 := Kp.mk Mm
                    have hd3 : d3.size = sz := by have h9 := Mm.1.1; omega
                    clear S3 Mm HCL S6 q2a q2b q2c q2d
                    go_wp2
                    go_end0
                    exact ⟨rfl, _, S8.out, sym_join (by omega) HR1.it (permIn_refl d a b) ge1 ge2 ge3 ge4 HS.it C1.it C2.it HM1.it HM2.it⟩
                  · have q2a : decide ((mid : Int) < (e : Int)) = true := by simp; omega
                    have q2b : decide ((e : Int) < (b : Int)) = false := by simp; omega
                    have q2c : (mid : Int) < (e : Int) := by omega
                    have q2d : ¬ (e : Int) < (b : Int) := by omega
                    have HM2 : Kp (Mg κ mid e b d2 d2) := ⟨mg_right' (by omega)⟩
                    go_wp2
                    go_end0
                    exact ⟨rfl, _, S6.out, sym_join (by omega) HR1.it (permIn_refl d a b) ge1 ge2 ge3 ge4 HS.it C1.it C2.it HM1.it HM2.it⟩
                · have q2a : decide ((mid : Int) < (e : Int)) = false := by simp; omega
                  have q2c : ¬ (mid : Int) < (e : Int) := by omega
                  have HM2 : Kp (Mg κ mid e b d2 d2) := ⟨mg_left' (by omega)⟩
                  go_wp2
                  go_end0
                  exact ⟨rfl, _, S6.out, sym_join (by omega) HR1.it (permIn_refl d a b) ge1 ge2 ge3 ge4 HS.it C1.it C2.it HM1.it HM2.it⟩
              · have q1a : decide ((a : Int) < (st : Int)) = true := by simp; omega
                have q1b : decide ((st : Int) < (mid : Int)) = false := by simp; omega
                have q1c : (a : Int) < (st : Int) := by omega
                have q1d : ¬ (st : Int) < (mid : Int) := by omega
                have HM1 : Kp (Mg κ a st mid d d) := ⟨mg_right' (by omega)⟩
                by_cases l2 : mid < e
                · by_cases l2' : e < b
                  · have q2a : decide ((mid : Int) < (e : Int)) = true := by simp; omega
                    have q2b : decide ((e : Int) < (b : Int)) = true := by simp; omega
                    have q2c : (mid : Int) < (e : Int) := by omega
                    have q2d : (e : Int) < (b : Int) := by omega
                    have HCL := Kp.mk (KIH.it κ p blk off cap sz mid e b d0 d w0 wr R hs (by omega) S1.out (by omega) (by omega) (by omega) hsz HCMP.it (by omega))
                    go_wp2_with fail
                    refine HCL.it.mono ?_
                    rintro e3 w5 ⟨rfl, d3, S3, Mm⟩
                    have S8 : Aside (SW encW w0 blk off d3 w5) := S3
                    have HM2 := Kp.mk Mm
                    have hd3 : d3.size = sz := by have h9 := Mm.1.1; omega
                    clear S3 Mm HCL S1 q2a q2b q2c q2d
                    go_wp2
                    go_end0
                    exact ⟨rfl, _, S8.out, sym_join (by omega) HR1.it (permIn_refl d a b) ge1 ge2 ge3 ge4 HS.it C1.it C2.it HM1.it HM2.it⟩
                  · have q2a : decide ((mid : Int) < (e : Int)) = true := by simp; omega
                    have q2b : decide ((e : Int) < (b : Int)) = false := by simp; omega
                    have q2c : (mid : Int) < (e : Int) := by omega
                    have q2d : ¬ (e : Int) < (b : Int) := by omega
                    have HM2 : Kp (Mg κ mid e b d d) := ⟨mg_right' (by omega)⟩
                    go_wp2
                    go_end0
                    exact ⟨rfl, _, S1.out, sym_join (by omega) HR1.it (permIn_refl d a b) ge1 ge2 ge3 ge4 HS.it C1.it C2.it HM1.it HM2.it⟩
                · have q2a : decide ((mid : Int) < (e : Int)) = false := by simp; omega
                  have q2c : ¬ (mid : Int) < (e : Int) := by omega
                  have HM2 : Kp (Mg κ mid e b d d) := ⟨mg_left' (by omega)⟩
                  go_wp2
                  go_end0
                  exact ⟨rfl, _, S1.out, sym_join (by omega) HR1.it (permIn_refl d a b) ge1 ge2 ge3 ge4 HS.it C1.it C2.it HM1.it HM2.it⟩
            · have q1a : decide ((a : Int) < (st : Int)) = false := by simp; omega
              have q1c : ¬ (a : Int) < (st : Int) := by omega
              have HM1 : Kp (Mg κ a st mid d d) := ⟨mg_left' (by omega)⟩
              by_cases l2 : mid < e
              · by_cases l2' : e < b
                · have q2a : decide ((mid : Int) < (e : Int)) = true := by simp; omega
                  have q2b : decide ((e : Int) < (b : Int)) = true := by simp; omega
                  have q2c : (mid : Int) < (e : Int) := by omega
                  have q2d : (e : Int) < (b : Int) := by omega
                  have HCL := Kp.mk (KIH.it κ p blk off cap sz mid e b d0 d w0 wr R hs (by omega) S1.out (by omega) (by omega) (by omega) hsz HCMP.it (by omega))
                  go_wp2_with fail
                  refine HCL.it.mono ?_
                  rintro e3 w5 ⟨rfl, d3, S3, Mm⟩
                  have S8 : Aside (SW encW w0 blk off d3 w5) := S3
                  have HM2 := Kp.mk Mm
                  have hd3 : d3.size = sz := by have h9 := Mm.1.1; omega
                  clear S3 Mm HCL S1 q2a q2b q2c q2d
                  go_wp2
                  go_end0
                  exact ⟨rfl, _, S8.out, sym_join (by omega) HR1.it (permIn_refl d a b) ge1 ge2 ge3 ge4 HS.it C1.it C2.it HM1.it HM2.it⟩
                · have q2a : decide ((mid : Int) < (e : Int)) = true := by simp; omega
                  have q2b : decide ((e : Int) < (b : Int)) = false := by simp; omega
                  have q2c : (mid : Int) < (e : Int) := by omega
                  have q2d : ¬ (e : Int) < (b : Int) := by omega
                  have HM2 : Kp (Mg κ mid e b d d) := ⟨mg_right' (by omega)⟩
                  go_wp2
                  go_end0
                  exact ⟨rfl, _, S1.out, sym_join (by omega) HR1.it (permIn_refl d a b) ge1 ge2 ge3 ge4 HS.it C1.it C2.it HM1.it HM2.it⟩
              · have q2a : decide ((mid : Int) < (e : Int)) = false := by simp; omega
                have q2c : ¬ (mid : Int) < (e : Int) := by omega
                have HM2 : Kp (Mg κ mid e b d d) := ⟨mg_left' (by omega)⟩
                go_wp2
                go_end0
                exact ⟨rfl, _, S1.out, sym_join (by omega) HR1.it (permIn_refl d a b) ge1 ge2 ge3 ge4 HS.it C1.it C2.it HM1.it HM2.it⟩
    · have hbz : ¬ (mid : Int) < (m : Int) := by omega
      have hbd : decide ((m : Int) > (mid : Int)) = false := by simp; omega
      go_enter Try.func118, Try.ntmps118
      go_wp2
      go_loopg [20, 21] (m + b) (fun g s t wr => ∃ (st r : Nat), s = .int .i64 st ∧ t = .int .i64 r ∧ a ≤ st ∧ st ≤ r ∧ r ≤ m ∧ r - st ≤ g ∧ Aside (SW encW w0 blk off d wr) ∧ Hid (st = a ∨ κ.k d[st - 1]! ≤ κ.k d[mid + m - st]!) ∧ Hid (r = m ∨ κ.k d[mid + m - 1 - r]! < κ.k d[r]!))
      case atStart => exact ⟨a, m, by first | rfl | (congr 1; omega), rfl, by omega, by omega, by omega, by omega, S0, (show Hid _ from .inl rfl), (show Hid _ from .inl rfl)⟩
      case round =>
        clear S0
        obtain ⟨st, r, rfl, rfl, hst, hsr, hrr, hg, S1, HI, HJ⟩ := hrel
        by_cases hlt : st < r
        · have hltz : (st : Int) < (r : Int) := by omega
          obtain ⟨c, hc⟩ : ∃ c, c = (st + r) / 2 := ⟨_, rfl⟩
          have hcs : st ≤ c := by omega
          have hcr : c < r := by omega
          have hcz : ((st : Int) + (r : Int)) / 2 = (c : Int) := by omega
          clear hc
          by_cases hlv : κ.k d[mid + m - 1 - c]! < κ.k d[c]!
          · have HLV := Kp.mk hlv
            obtain ⟨iN1, hiN1⟩ : ∃ q, q = mid + m - 1 - c := ⟨_, rfl⟩
            obtain ⟨jN1, hjN1⟩ : ∃ q, q = c := ⟨_, rfl⟩
            have ra1 : IntKind.i64.wrap ((mid : Int) + (m : Int) - 1 - (c : Int)) = (iN1 : Int) := by rw [IntKind.wrap_i64]; omega
            have ea1 : ((iN1 : Int)).toNat = iN1 := by omega
            have pa1 : (0 : Int) ≤ (iN1 : Int) := by omega
            have ba1 : (iN1 : Int) < (sz : Int) := by omega
            have ec1 : ((c : Int)).toNat = jN1 := by omega
            have pc1 : (0 : Int) ≤ (c : Int) := by omega
            have bc1 : (c : Int) < (sz : Int) := by omega
            obtain ⟨x1, hx1⟩ : ∃ x, x = d[mid + m - 1 - c]! := ⟨_, rfl⟩
            obtain ⟨y1, hy1⟩ : ∃ x, x = d[c]! := ⟨_, rfl⟩
            obtain ⟨z1, hz1⟩ : ∃ z, z = κ.k x1 - κ.k y1 := ⟨_, rfl⟩
            have l1a : ∀ n os, (grow (wr.drewN n) os).cell? ⟨blk, off + iN1, none⟩ = some (.int .i64 x1.1) := fun n os => by rw [hiN1, hx1]; exact S1.out.cl R (by omega) (mid + m - 1 - c) (by omega) n os
            have l1b : ∀ n os, (grow (wr.drewN n) os).cell? ⟨blk, off + jN1, none⟩ = some (.int .i64 y1.1) := fun n os => by rw [hjN1, hy1]; exact S1.out.cl R (by omega) (c) (by omega) n os
            have hc1 : ∀ n os, Calls Try.prog 59 #[.int .i64 x1.1, .int .i64 y1.1, .pointer (some ⟨p, 0, none⟩)] (grow (wr.drewN n) os) fun e w' => e = .returned (.int .i64 z1) ∧ ∃ q os', w' = grow ((grow (wr.drewN n) os).drewN q) os' := fun n os => by rw [hz1]; exact S1.out.cmp HCMP.it (by omega) x1 y1 n os
            have hv1 : decide (z1 < 0) = true := by rw [hz1, hx1, hy1]; simp; omega
            have HCK1 := Kp.mk hc1
            clear hx1 hy1 hiN1 hjN1 hz1 hc1 hlv
            go_wp2_with fail
            go_quiet_grown (first | (go_at_call 59; refine Calls.grown_of (HCK1.it _ _)))
            have S2 : Aside (SW encW w0 blk off d (grow (wr.drewN nq) osq)) := S1.out.grown nq osq
            clear l1a l1b HCK1 S1
            generalize grow (wr.drewN nq) osq = w2 at S2 ⊢
            clear nq osq
            clear ea1 ec1
            go_wp2
            go_roundg (c - st)
            case measure => omega
            case rel => exact ⟨st, c, rfl, rfl, hst, by omega, by omega, by omega, S2, HI, (show Hid _ from .inr HLV.it)⟩
          · have HLV := Kp.mk (Int.not_lt.1 hlv)
            obtain ⟨iN1, hiN1⟩ : ∃ q, q = mid + m - 1 - c := ⟨_, rfl⟩
            obtain ⟨jN1, hjN1⟩ : ∃ q, q = c := ⟨_, rfl⟩
            have ra1 : IntKind.i64.wrap ((mid : Int) + (m : Int) - 1 - (c : Int)) = (iN1 : Int) := by rw [IntKind.wrap_i64]; omega
            have ea1 : ((iN1 : Int)).toNat = iN1 := by omega
            have pa1 : (0 : Int) ≤ (iN1 : Int) := by omega
            have ba1 : (iN1 : Int) < (sz : Int) := by omega
            have ec1 : ((c : Int)).toNat = jN1 := by omega
            have pc1 : (0 : Int) ≤ (c : Int) := by omega
            have bc1 : (c : Int) < (sz : Int) := by omega
            obtain ⟨x1, hx1⟩ : ∃ x, x = d[mid + m - 1 - c]! := ⟨_, rfl⟩
            obtain ⟨y1, hy1⟩ : ∃ x, x = d[c]! := ⟨_, rfl⟩
            obtain ⟨z1, hz1⟩ : ∃ z, z = κ.k x1 - κ.k y1 := ⟨_, rfl⟩
            have l1a : ∀ n os, (grow (wr.drewN n) os).cell? ⟨blk, off + iN1, none⟩ = some (.int .i64 x1.1) := fun n os => by rw [hiN1, hx1]; exact S1.out.cl R (by omega) (mid + m - 1 - c) (by omega) n os
            have l1b : ∀ n os, (grow (wr.drewN n) os).cell? ⟨blk, off + jN1, none⟩ = some (.int .i64 y1.1) := fun n os => by rw [hjN1, hy1]; exact S1.out.cl R (by omega) (c) (by omega) n os
            have hc1 : ∀ n os, Calls Try.prog 59 #[.int .i64 x1.1, .int .i64 y1.1, .pointer (some ⟨p, 0, none⟩)] (grow (wr.drewN n) os) fun e w' => e = .returned (.int .i64 z1) ∧ ∃ q os', w' = grow ((grow (wr.drewN n) os).drewN q) os' := fun n os => by rw [hz1]; exact S1.out.cmp HCMP.it (by omega) x1 y1 n os
            have hv1 : decide (z1 < 0) = false := by rw [hz1, hx1, hy1]; simp; omega
            have HCK1 := Kp.mk hc1
            clear hx1 hy1 hiN1 hjN1 hz1 hc1 hlv
            go_wp2_with fail
            go_quiet_grown (first | (go_at_call 59; refine Calls.grown_of (HCK1.it _ _)))
            have S2 : Aside (SW encW w0 blk off d (grow (wr.drewN nq) osq)) := S1.out.grown nq osq
            clear l1a l1b HCK1 S1
            generalize grow (wr.drewN nq) osq = w2 at S2 ⊢
            clear nq osq
            clear ea1 ec1
            go_wp2
            go_roundg (r - (c + 1))
            case measure => omega
            case rel => exact ⟨c + 1, r, by go_num, rfl, by omega, by omega, hrr, by omega, S2, (show Hid _ from .inr (by rw [show mid + m - (c + 1) = mid + m - 1 - c by omega, Nat.add_sub_cancel]; exact HLV.it)), HJ⟩
        · have hltz : ¬ (st : Int) < (r : Int) := by omega
          obtain rfl : st = r := by omega
          obtain ⟨e, he⟩ : ∃ e, e = mid + m - st := ⟨_, rfl⟩
          have hez : (mid : Int) + (m : Int) - (st : Int) = (e : Int) := by omega
          have c1 : st = a ∨ e = b ∨ κ.k d[st - 1]! ≤ κ.k d[e]! := by
            rcases HI.out with h | h
            · left; exact h
            · right; right; rw [he]; exact h
          have c2 : st = m ∨ e = m ∨ κ.k d[e - 1]! < κ.k d[st]! := by
            rcases HJ.out with h | h
            · left; exact h
            · right; right; rw [show e - 1 = mid + m - 1 - st by omega]; exact h
          have C1 := Kp.mk c1
          have C2 := Kp.mk c2
          have ge1 : a ≤ st := by omega
          have ge2 : st ≤ m := by omega
          have ge3 : m ≤ e := by omega
          have ge4 : e ≤ b := by omega
          have ge5 : st ≤ mid := by omega
          have ge6 : mid ≤ e := by omega
          have HS : Kp (st + (e - m) = mid) := ⟨by omega⟩
          clear c1 c2 HI HJ he hst hsr hrr hg hlt
          have hst : True := trivial
          by_cases l0 : st < m
          · by_cases l0' : m < e
            · have q0a : decide ((st : Int) < (m : Int)) = true := by simp; omega
              have q0b : decide ((m : Int) < (e : Int)) = true := by simp; omega
              have q0c : (st : Int) < (m : Int) := by omega
              have q0d : (m : Int) < (e : Int) := by omega
              have HCL := Kp.mk (rotate_any blk off cap sz st m e (.func (.func 59) #[] #[.pointer (some ⟨p, 0, none⟩)]) d0 d w0 wr R hs (by omega) S1.out (by omega) (by omega) (by omega) hsz)
              go_wp2_with fail
              refine HCL.it.mono ?_
              rintro e1 w3 ⟨rfl, d1, S3, Rr, Pp⟩
              have S4 : Aside (SW encW w0 blk off d1 w3) := S3
              have HR1 := Kp.mk Rr
              have HP1 := Kp.mk (permIn_mono _ _ st e a b ge1 ge4 (by omega) Pp)
              have hd1 : d1.size = sz := by rw [← hds]; exact Rr.size
              clear S3 Rr Pp HCL S1 q0a q0b q0c q0d
              by_cases l1 : a < st
              · by_cases l1' : st < mid
                · have q1a : decide ((a : Int) < (st : Int)) = true := by simp; omega
                  have q1b : decide ((st : Int) < (mid : Int)) = true := by simp; omega
                  have q1c : (a : Int) < (st : Int) := by omega
                  have q1d : (st : Int) < (mid : Int) := by omega
                  have HCL := Kp.mk (KIH.it κ p blk off cap sz a st mid d0 d1 w0 w3 R hs (by omega) S4.out (by omega) (by omega) (by omega) hsz HCMP.it (by omega))
                  go_wp2_with fail
                  refine HCL.it.mono ?_
                  rintro e2 w4 ⟨rfl, d2, S3, Mm⟩
                  have S6 : Aside (SW encW w0 blk off d2 w4) := S3
                  have HM1 := Kp.mk Mm
                  have hd2 : d2.size = sz := by have h9 := Mm.1.1; omega
                  clear S3 Mm HCL S4 q1a q1b q1c q1d
                  by_cases l2 : mid < e
                  · by_cases l2' : e < b
                    · have q2a : decide ((mid : Int) < (e : Int)) = true := by simp; omega
                      have q2b : decide ((e : Int) < (b : Int)) = true := by simp; omega
                      have q2c : (mid : Int) < (e : Int) := by omega
                      have q2d : (e : Int) < (b : Int) := by omega
                      have HCL := Kp.mk (KIH.it κ p blk off cap sz mid e b d0 d2 w0 w4 R hs (by omega) S6.out (by omega) (by omega) (by omega) hsz HCMP.it (by omega))
                      go_wp2_with fail
                      refine HCL.it.mono ?_
                      rintro e3 w5 ⟨rfl, d3, S3, Mm⟩
                      have S8 : Aside (SW encW w0 blk off d3 w5) := S3
                      have HM2 := Kp.mk Mm
                      have hd3 : d3.size = sz := by have h9 := Mm.1.1; omega
                      clear S3 Mm HCL S6 q2a q2b q2c q2d
                      go_wp2
                      go_end0
                      exact ⟨rfl, _, S8.out, sym_join (by omega) HR1.it HP1.it ge1 ge2 ge3 ge4 HS.it C1.it C2.it HM1.it HM2.it⟩
                    · have q2a : decide ((mid : Int) < (e : Int)) = true := by simp; omega
                      have q2b : decide ((e : Int) < (b : Int)) = false := by simp; omega
                      have q2c : (mid : Int) < (e : Int) := by omega
                      have q2d : ¬ (e : Int) < (b : Int) := by omega
                      have HM2 : Kp (Mg κ mid e b d2 d2) := ⟨mg_right' (by omega)⟩
                      go_wp2
                      go_end0
                      exact ⟨rfl, _, S6.out, sym_join (by omega) HR1.it HP1.it ge1 ge2 ge3 ge4 HS.it C1.it C2.it HM1.it HM2.it⟩
                  · have q2a : decide ((mid : Int) < (e : Int)) = false := by simp; omega
                    have q2c : ¬ (mid : Int) < (e : Int) := by omega
                    have HM2 : Kp (Mg κ mid e b d2 d2) := ⟨mg_left' (by omega)⟩
                    go_wp2
                    go_end0
                    exact ⟨rfl, _, S6.out, sym_join (by omega) HR1.it HP1.it ge1 ge2 ge3 ge4 HS.it C1.it C2.it HM1.it HM2.it⟩
                · have q1a : decide ((a : Int) < (st : Int)) = true := by simp; omega
                  have q1b : decide ((st : Int) < (mid : Int)) = false := by simp; omega
                  have q1c : (a : Int) < (st : Int) := by omega
                  have q1d : ¬ (st : Int) < (mid : Int) := by omega
                  have HM1 : Kp (Mg κ a st mid d1 d1) := ⟨mg_right' (by omega)⟩
                  by_cases l2 : mid < e
                  · by_cases l2' : e < b
                    · have q2a : decide ((mid : Int) < (e : Int)) = true := by simp; omega
                      have q2b : decide ((e : Int) < (b : Int)) = true := by simp; omega
                      have q2c : (mid : Int) < (e : Int) := by omega
                      have q2d : (e : Int) < (b : Int) := by omega
                      have HCL := Kp.mk (KIH.it κ p blk off cap sz mid e b d0 d1 w0 w3 R hs (by omega) S4.out (by omega) (by omega) (by omega) hsz HCMP.it (by omega))
                      go_wp2_with fail
                      refine HCL.it.mono ?_
                      rintro e3 w5 ⟨rfl, d3, S3, Mm⟩
                      have S8 : Aside (SW encW w0 blk off d3 w5) := S3
                      have HM2 := Kp.mk Mm
                      have hd3 : d3.size = sz := by have h9 := Mm.1.1; omega
                      clear S3 Mm HCL S4 q2a q2b q2c q2d
                      go_wp2
                      go_end0
                      exact ⟨rfl, _, S8.out, sym_join (by omega) HR1.it HP1.it ge1 ge2 ge3 ge4 HS.it C1.it C2.it HM1.it HM2.it⟩
                    · have q2a : decide ((mid : Int) < (e : Int)) = true := by simp; omega
                      have q2b : decide ((e : Int) < (b : Int)) = false := by simp; omega
                      have q2c : (mid : Int) < (e : Int) := by omega
                      have q2d : ¬ (e : Int) < (b : Int) := by omega
                      have HM2 : Kp (Mg κ mid e b d1 d1) := ⟨mg_right' (by omega)⟩
                      go_wp2
                      go_end0
                      exact ⟨rfl, _, S4.out, sym_join (by omega) HR1.it HP1.it ge1 ge2 ge3 ge4 HS.it C1.it C2.it HM1.it HM2.it⟩
                  · have q2a : decide ((mid : Int) < (e : Int)) = false := by simp; omega
                    have q2c : ¬ (mid : Int) < (e : Int) := by omega
                    have HM2 : Kp (Mg κ mid e b d1 d1) := ⟨mg_left' (by omega)⟩
                    go_wp2
                    go_end0
                    exact ⟨rfl, _, S4.out, sym_join (by omega) HR1.it HP1.it ge1 ge2 ge3 ge4 HS.it C1.it C2.it HM1.it HM2.it⟩
              · have q1a : decide ((a : Int) < (st : Int)) = false := by simp; omega
                have q1c : ¬ (a : Int) < (st : Int) := by omega
                have HM1 : Kp (Mg κ a st mid d1 d1) := ⟨mg_left' (by omega)⟩
                by_cases l2 : mid < e
                · by_cases l2' : e < b
                  · have q2a : decide ((mid : Int) < (e : Int)) = true := by simp; omega
                    have q2b : decide ((e : Int) < (b : Int)) = true := by simp; omega
                    have q2c : (mid : Int) < (e : Int) := by omega
                    have q2d : (e : Int) < (b : Int) := by omega
                    have HCL := Kp.mk (KIH.it κ p blk off cap sz mid e b d0 d1 w0 w3 R hs (by omega) S4.out (by omega) (by omega) (by omega) hsz HCMP.it (by omega))
                    go_wp2_with fail
                    refine HCL.it.mono ?_
                    rintro e3 w5 ⟨rfl, d3, S3, Mm⟩
                    have S8 : Aside (SW encW w0 blk off d3 w5) := S3
                    have HM2 := Kp.mk Mm
                    have hd3 : d3.size = sz := by have h9 := Mm.1.1; omega
                    clear S3 Mm HCL S4 q2a q2b q2c q2d
                    go_wp2
                    go_end0
                    exact ⟨rfl, _, S8.out, sym_join (by omega) HR1.it HP1.it ge1 ge2 ge3 ge4 HS.it C1.it C2.it HM1.it HM2.it⟩
                  · have q2a : decide ((mid : Int) < (e : Int)) = true := by simp; omega
                    have q2b : decide ((e : Int) < (b : Int)) = false := by simp; omega
                    have q2c : (mid : Int) < (e : Int) := by omega
                    have q2d : ¬ (e : Int) < (b : Int) := by omega
                    have HM2 : Kp (Mg κ mid e b d1 d1) := ⟨mg_right' (by omega)⟩
                    go_wp2
                    go_end0
                    exact ⟨rfl, _, S4.out, sym_join (by omega) HR1.it HP1.it ge1 ge2 ge3 ge4 HS.it C1.it C2.it HM1.it HM2.it⟩
                · have q2a : decide ((mid : Int) < (e : Int)) = false := by simp; omega
                  have q2c : ¬ (mid : Int) < (e : Int) := by omega
                  have HM2 : Kp (Mg κ mid e b d1 d1) := ⟨mg_left' (by omega)⟩
                  go_wp2
                  go_end0
                  exact ⟨rfl, _, S4.out, sym_join (by omega) HR1.it HP1.it ge1 ge2 ge3 ge4 HS.it C1.it C2.it HM1.it HM2.it⟩
            · have q0a : decide ((st : Int) < (m : Int)) = true := by simp; omega
              have q0b : decide ((m : Int) < (e : Int)) = false := by simp; omega
              have q0c : (st : Int) < (m : Int) := by omega
              have q0d : ¬ (m : Int) < (e : Int) := by omega
              have HR1 : Kp (Rot st m e d d) := ⟨Rot.idr (by omega)⟩
              by_cases l1 : a < st
              · by_cases l1' : st < mid
                · have q1a : decide ((a : Int) < (st : Int)) = true := by simp; omega
                  have q1b : decide ((st : Int) < (mid : Int)) = true := by simp; omega
                  have q1c : (a : Int) < (st : Int) := by omega
                  have q1d : (st : Int) < (mid : Int) := by omega
                  have HCL := Kp.mk (KIH.it κ p blk off cap sz a st mid d0 d w0 wr R hs (by omega) S1.out (by omega) (by omega) (by omega) hsz HCMP.it (by omega))
                  go_wp2_with fail
                  refine HCL.it.mono ?_
                  rintro e2 w4 ⟨rfl, d2, S3, Mm⟩
                  have S6 : Aside (SW encW w0 blk off d2 w4) := S3
                  have HM1 := Kp.mk Mm
                  have hd2 : d2.size = sz := by have h9 := Mm.1.1; omega
                  clear S3 Mm HCL S1 q1a q1b q1c q1d
                  by_cases l2 : mid < e
                  · by_cases l2' : e < b
                    · have q2a : decide ((mid : Int) < (e : Int)) = true := by simp; omega
                      have q2b : decide ((e : Int) < (b : Int)) = true := by simp; omega
                      have q2c : (mid : Int) < (e : Int) := by omega
                      have q2d : (e : Int) < (b : Int) := by omega
                      have HCL := Kp.mk (KIH.it κ p blk off cap sz mid e b d0 d2 w0 w4 R hs (by omega) S6.out (by omega) (by omega) (by omega) hsz HCMP.it (by omega))
                      go_wp2_with fail
                      refine HCL.it.mono ?_
                      rintro e3 w5 ⟨rfl, d3, S3, Mm⟩
                      have S8 : Aside (SW encW w0 blk off d3 w5) := S3
                      have HM2 := Kp.mk Mm
                      have hd3 : d3.size = sz := by have h9 := Mm.1.1; omega
                      clear S3 Mm HCL S6 q2a q2b q2c q2d
                      go_wp2
                      go_end0
                      exact ⟨rfl, _, S8.out, sym_join (by omega) HR1.it (permIn_refl d a b) ge1 ge2 ge3 ge4 HS.it C1.it C2.it HM1.it HM2.it⟩
                    · have q2a : decide ((mid : Int) < (e : Int)) = true := by simp; omega
                      have q2b : decide ((e : Int) < (b : Int)) = false := by simp; omega
                      have q2c : (mid : Int) < (e : Int) := by omega
                      have q2d : ¬ (e : Int) < (b : Int) := by omega
                      have HM2 : Kp (Mg κ mid e b d2 d2) := ⟨mg_right' (by omega)⟩
                      go_wp2
                      go_end0
                      exact ⟨rfl, _, S6.out, sym_join (by omega) HR1.it (permIn_refl d a b) ge1 ge2 ge3 ge4 HS.it C1.it C2.it HM1.it HM2.it⟩
                  · have q2a : decide ((mid : Int) < (e : Int)) = false := by simp; omega
                    have q2c : ¬ (mid : Int) < (e : Int) := by omega
                    have HM2 : Kp (Mg κ mid e b d2 d2) := ⟨mg_left' (by omega)⟩
                    go_wp2
                    go_end0
                    exact ⟨rfl, _, S6.out, sym_join (by omega) HR1.it (permIn_refl d a b) ge1 ge2 ge3 ge4 HS.it C1.it C2.it HM1.it HM2.it⟩
                · have q1a : decide ((a : Int) < (st : Int)) = true := by simp; omega
                  have q1b : decide ((st : Int) < (mid : Int)) = false := by simp; omega
                  have q1c : (a : Int) < (st : Int) := by omega
                  have q1d : ¬ (st : Int) < (mid : Int) := by omega
                  have HM1 : Kp (Mg κ a st mid d d) := ⟨mg_right' (by omega)⟩
                  by_cases l2 : mid < e
                  · by_cases l2' : e < b
                    · have q2a : decide ((mid : Int) < (e : Int)) = true := by simp; omega
                      have q2b : decide ((e : Int) < (b : Int)) = true := by simp; omega
                      have q2c : (mid : Int) < (e : Int) := by omega
                      have q2d : (e : Int) < (b : Int) := by omega
                      have HCL := Kp.mk (KIH.it κ p blk off cap sz mid e b d0 d w0 wr R hs (by omega) S1.out (by omega) (by omega) (by omega) hsz HCMP.it (by omega))
                      go_wp2_with fail
                      refine HCL.it.mono ?_
                      rintro e3 w5 ⟨rfl, d3, S3, Mm⟩
                      have S8 : Aside (SW encW w0 blk off d3 w5) := S3
                      have HM2 := Kp.mk Mm
                      have hd3 : d3.size = sz := by have h9 := Mm.1.1; omega
                      clear S3 Mm HCL S1 q2a q2b q2c q2d
                      go_wp2
                      go_end0
                      exact ⟨rfl, _, S8.out, sym_join (by omega) HR1.it (permIn_refl d a b) ge1 ge2 ge3 ge4 HS.it C1.it C2.it HM1.it HM2.it⟩
                    · have q2a : decide ((mid : Int) < (e : Int)) = true := by simp; omega
                      have q2b : decide ((e : Int) < (b : Int)) = false := by simp; omega
                      have q2c : (mid : Int) < (e : Int) := by omega
                      have q2d : ¬ (e : Int) < (b : Int) := by omega
                      have HM2 : Kp (Mg κ mid e b d d) := ⟨mg_right' (by omega)⟩
                      go_wp2
                      go_end0
                      exact ⟨rfl, _, S1.out, sym_join (by omega) HR1.it (permIn_refl d a b) ge1 ge2 ge3 ge4 HS.it C1.it C2.it HM1.it HM2.it⟩
                  · have q2a : decide ((mid : Int) < (e : Int)) = false := by simp; omega
                    have q2c : ¬ (mid : Int) < (e : Int) := by omega
                    have HM2 : Kp (Mg κ mid e b d d) := ⟨mg_left' (by omega)⟩
                    go_wp2
                    go_end0
                    exact ⟨rfl, _, S1.out, sym_join (by omega) HR1.it (permIn_refl d a b) ge1 ge2 ge3 ge4 HS.it C1.it C2.it HM1.it HM2.it⟩
              · have q1a : decide ((a : Int) < (st : Int)) = false := by simp; omega
                have q1c : ¬ (a : Int) < (st : Int) := by omega
                have HM1 : Kp (Mg κ a st mid d d) := ⟨mg_left' (by omega)⟩
                by_cases l2 : mid < e
                · by_cases l2' : e < b
                  · have q2a : decide ((mid : Int) < (e : Int)) = true := by simp; omega
                    have q2b : decide ((e : Int) < (b : Int)) = true := by simp; omega
                    have q2c : (mid : Int) < (e : Int) := by omega
                    have q2d : (e : Int) < (b : Int) := by omega
                    have HCL := Kp.mk (KIH.it κ p blk off cap sz mid e b d0 d w0 wr R hs (by omega) S1.out (by omega) (by omega) (by omega) hsz HCMP.it (by omega))
                    go_wp2_with fail
                    refine HCL.it.mono ?_
                    rintro e3 w5 ⟨rfl, d3, S3, Mm⟩
                    have S8 : Aside (SW encW w0 blk off d3 w5) := S3
                    have HM2 := Kp.mk Mm
                    have hd3 : d3.size = sz := by have h9 := Mm.1.1; omega
                    clear S3 Mm HCL S1 q2a q2b q2c q2d
                    go_wp2
                    go_end0
                    exact ⟨rfl, _, S8.out, sym_join (by omega) HR1.it (permIn_refl d a b) ge1 ge2 ge3 ge4 HS.it C1.it C2.it HM1.it HM2.it⟩
                  · have q2a : decide ((mid : Int) < (e : Int)) = true := by simp; omega
                    have q2b : decide ((e : Int) < (b : Int)) = false := by simp; omega
                    have q2c : (mid : Int) < (e : Int) := by omega
                    have q2d : ¬ (e : Int) < (b : Int) := by omega
                    have HM2 : Kp (Mg κ mid e b d d) := ⟨mg_right' (by omega)⟩
                    go_wp2
                    go_end0
                    exact ⟨rfl, _, S1.out, sym_join (by omega) HR1.it (permIn_refl d a b) ge1 ge2 ge3 ge4 HS.it C1.it C2.it HM1.it HM2.it⟩
                · have q2a : decide ((mid : Int) < (e : Int)) = false := by simp; omega
                  have q2c : ¬ (mid : Int) < (e : Int) := by omega
                  have HM2 : Kp (Mg κ mid e b d d) := ⟨mg_left' (by omega)⟩
                  go_wp2
                  go_end0
                  exact ⟨rfl, _, S1.out, sym_join (by omega) HR1.it (permIn_refl d a b) ge1 ge2 ge3 ge4 HS.it C1.it C2.it HM1.it HM2.it⟩
          · have q0a : decide ((st : Int) < (m : Int)) = false := by simp; omega
            have q0c : ¬ (st : Int) < (m : Int) := by omega
            have HR1 : Kp (Rot st m e d d) := ⟨Rot.idl (by omega)⟩
            by_cases l1 : a < st
            · by_cases l1' : st < mid
              · have q1a : decide ((a : Int) < (st : Int)) = true := by simp; omega
                have q1b : decide ((st : Int) < (mid : Int)) = true := by simp; omega
                have q1c : (a : Int) < (st : Int) := by omega
                have q1d : (st : Int) < (mid : Int) := by omega
                have HCL := Kp.mk (KIH.it κ p blk off cap sz a st mid d0 d w0 wr R hs (by omega) S1.out (by omega) (by omega) (by omega) hsz HCMP.it (by omega))
                go_wp2_with fail
                refine HCL.it.mono ?_
                rintro e2 w4 ⟨rfl, d2, S3, Mm⟩
                have S6 : Aside (SW encW w0 blk off d2 w4) := S3
                have HM1 := Kp.mk Mm
                have hd2 : d2.size = sz := by have h9 := Mm.1.1; omega
                clear S3 Mm HCL S1 q1a q1b q1c q1d
                by_cases l2 : mid < e
                · by_cases l2' : e < b
                  · have q2a : decide ((mid : Int) < (e : Int)) = true := by simp; omega
                    have q2b : decide ((e : Int) < (b : Int)) = true := by simp; omega
                    have q2c : (mid : Int) < (e : Int) := by omega
                    have q2d : (e : Int) < (b : Int) := by omega
                    have HCL := Kp.mk (KIH.it κ p blk off cap sz mid e b d0 d2 w0 w4 R hs (by omega) S6.out (by omega) (by omega) (by omega) hsz HCMP.it (by omega))
                    go_wp2_with fail
                    refine HCL.it.mono ?_
                    rintro e3 w5 ⟨rfl, d3, S3, Mm⟩
                    have S8 : Aside (SW encW w0 blk off d3 w5) := S3
                    have HM2 := Kp.mk Mm
                    have hd3 : d3.size = sz := by have h9 := Mm.1.1; omega
                    clear S3 Mm HCL S6 q2a q2b q2c q2d
                    go_wp2
                    go_end0
                    exact ⟨rfl, _, S8.out, sym_join (by omega) HR1.it (permIn_refl d a b) ge1 ge2 ge3 ge4 HS.it C1.it C2.it HM1.it HM2.it⟩
                  · have q2a : decide ((mid : Int) < (e : Int)) = true := by simp; omega
                    have q2b : decide ((e : Int) < (b : Int)) = false := by simp; omega
                    have q2c : (mid : Int) < (e : Int) := by omega
                    have q2d : ¬ (e : Int) < (b : Int) := by omega
                    have HM2 : Kp (Mg κ mid e b d2 d2) := ⟨mg_right' (by omega)⟩
                    go_wp2
                    go_end0
                    exact ⟨rfl, _, S6.out, sym_join (by omega) HR1.it (permIn_refl d a b) ge1 ge2 ge3 ge4 HS.it C1.it C2.it HM1.it HM2.it⟩
                · have q2a : decide ((mid : Int) < (e : Int)) = false := by simp; omega
                  have q2c : ¬ (mid : Int) < (e : Int) := by omega
                  have HM2 : Kp (Mg κ mid e b d2 d2) := ⟨mg_left' (by omega)⟩
                  go_wp2
                  go_end0
                  exact ⟨rfl, _, S6.out, sym_join (by omega) HR1.it (permIn_refl d a b) ge1 ge2 ge3 ge4 HS.it C1.it C2.it HM1.it HM2.it⟩
              · have q1a : decide ((a : Int) < (st : Int)) = true := by simp; omega
                have q1b : decide ((st : Int) < (mid : Int)) = false := by simp; omega
                have q1c : (a : Int) < (st : Int) := by omega
                have q1d : ¬ (st : Int) < (mid : Int) := by omega
                have HM1 : Kp (Mg κ a st mid d d) := ⟨mg_right' (by omega)⟩
                by_cases l2 : mid < e
                · by_cases l2' : e < b
                  · have q2a : decide ((mid : Int) < (e : Int)) = true := by simp; omega
                    have q2b : decide ((e : Int) < (b : Int)) = true := by simp; omega
                    have q2c : (mid : Int) < (e : Int) := by omega
                    have q2d : (e : Int) < (b : Int) := by omega
                    have HCL := Kp.mk (KIH.it κ p blk off cap sz mid e b d0 d w0 wr R hs (by omega) S1.out (by omega) (by omega) (by omega) hsz HCMP.it (by omega))
                    go_wp2_with fail
                    refine HCL.it.mono ?_
                    rintro e3 w5 ⟨rfl, d3, S3, Mm⟩
                    have S8 : Aside (SW encW w0 blk off d3 w5) := S3
                    have HM2 := Kp.mk Mm
                    have hd3 : d3.size = sz := by have h9 := Mm.1.1; omega
                    clear S3 Mm HCL S1 q2a q2b q2c q2d
                    go_wp2
                    go_end0
                    exact ⟨rfl, _, S8.out, sym_join (by omega) HR1.it (permIn_refl d a b) ge1 ge2 ge3 ge4 HS.it C1.it C2.it HM1.it HM2.it⟩
                  · have q2a : decide ((mid : Int) < (e : Int)) = true := by simp; omega
                    have q2b : decide ((e : Int) < (b : Int)) = false := by simp; omega
                    have q2c : (mid : Int) < (e : Int) := by omega
                    have q2d : ¬ (e : Int) < (b : Int) := by omega
                    have HM2 : Kp (Mg κ mid e b d d) := ⟨mg_right' (by omega)⟩
                    go_wp2
                    go_end0
                    exact ⟨rfl, _, S1.out, sym_join (by omega) HR1.it (permIn_refl d a b) ge1 ge2 ge3 ge4 HS.it C1.it C2.it HM1.it HM2.it⟩
                · have q2a : decide ((mid : Int) < (e : Int)) = false := by simp; omega
                  have q2c : ¬ (mid : Int) < (e : Int) := by omega
                  have HM2 : Kp (Mg κ mid e b d d) := ⟨mg_left' (by omega)⟩
                  go_wp2
                  go_end0
                  exact ⟨rfl, _, S1.out, sym_join (by omega) HR1.it (permIn_refl d a b) ge1 ge2 ge3 ge4 HS.it C1.it C2.it HM1.it HM2.it⟩
            · have q1a : decide ((a : Int) < (st : Int)) = false := by simp; omega
              have q1c : ¬ (a : Int) < (st : Int) := by omega
              have HM1 : Kp (Mg κ a st mid d d) := ⟨mg_left' (by omega)⟩
              by_cases l2 : mid < e
              · by_cases l2' : e < b
                · have q2a : decide ((mid : Int) < (e : Int)) = true := by simp; omega
                  have q2b : decide ((e : Int) < (b : Int)) = true := by simp; omega
                  have q2c : (mid : Int) < (e : Int) := by omega
                  have q2d : (e : Int) < (b : Int) := by omega
                  have HCL := Kp.mk (KIH.it κ p blk off cap sz mid e b d0 d w0 wr R hs (by omega) S1.out (by omega) (by omega) (by omega) hsz HCMP.it (by omega))
                  go_wp2_with fail
                  refine HCL.it.mono ?_
                  rintro e3 w5 ⟨rfl, d3, S3, Mm⟩
                  have S8 : Aside (SW encW w0 blk off d3 w5) := S3
                  have HM2 := Kp.mk Mm
                  have hd3 : d3.size = sz := by have h9 := Mm.1.1; omega
                  clear S3 Mm HCL S1 q2a q2b q2c q2d
                  go_wp2
                  go_end0
                  exact ⟨rfl, _, S8.out, sym_join (by omega) HR1.it (permIn_refl d a b) ge1 ge2 ge3 ge4 HS.it C1.it C2.it HM1.it HM2.it⟩
                · have q2a : decide ((mid : Int) < (e : Int)) = true := by simp; omega
                  have q2b : decide ((e : Int) < (b : Int)) = false := by simp; omega
                  have q2c : (mid : Int) < (e : Int) := by omega
                  have q2d : ¬ (e : Int) < (b : Int) := by omega
                  have HM2 : Kp (Mg κ mid e b d d) := ⟨mg_right' (by omega)⟩
                  go_wp2
                  go_end0
                  exact ⟨rfl, _, S1.out, sym_join (by omega) HR1.it (permIn_refl d a b) ge1 ge2 ge3 ge4 HS.it C1.it C2.it HM1.it HM2.it⟩
              · have q2a : decide ((mid : Int) < (e : Int)) = false := by simp; omega
                have q2c : ¬ (mid : Int) < (e : Int) := by omega
                have HM2 : Kp (Mg κ mid e b d d) := ⟨mg_left' (by omega)⟩
                go_wp2
                go_end0
                exact ⟨rfl, _, S1.out, sym_join (by omega) HR1.it (permIn_refl d a b) ge1 ge2 ge3 ge4 HS.it C1.it C2.it HM1.it HM2.it⟩


end Go.Proofs.Ytemnhmnompehoaa
