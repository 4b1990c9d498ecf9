/-
  unlike: the keys of which two rows have not the same.
-/
import Derived.Test.YtcmkjoepndbicaaStr
import Derived.Deep.RegionLaw
namespace Go.Proofs.Ytcmkjoepndbicaa
open Go Go.RowKit

def ltB (a b : ByteArray) : Bool := Op.bytesLess a.toList b.toList
def eqP (x y : Pr) : Bool := x.1.toList == y.1.toList && x.2.toList == y.2.toList
/-- The keys of which two rows have not the same. -/
def unl (a b : List Pr) : List ByteArray :=
  match a, b with
  | [], [] => []
  | x :: xs, [] => x.1 :: unl xs []
  | [], y :: ys => y.1 :: unl [] ys
  | x :: xs, y :: ys => if ltB x.1 y.1 = true then x.1 :: unl xs (y :: ys) else if ltB y.1 x.1 = true then y.1 :: unl (x :: xs) ys else if eqP x y = true then unl xs ys else x.1 :: unl xs ys
termination_by a.length + b.length
theorem unl_nn : unl [] [] = [] := by rw [unl]
theorem unl_cn (x : Pr) (xs : List Pr) : unl (x :: xs) [] = x.1 :: unl xs [] := by rw [unl]
theorem unl_nc (y : Pr) (ys : List Pr) : unl [] (y :: ys) = y.1 :: unl [] ys := by rw [unl]
theorem unl_lt {x y : Pr} (xs ys : List Pr) (h : ltB x.1 y.1 = true) : unl (x :: xs) (y :: ys) = x.1 :: unl xs (y :: ys) := by rw [unl, if_pos h]
theorem unl_gt {x y : Pr} (xs ys : List Pr) (h : ltB x.1 y.1 = false) (k : ltB y.1 x.1 = true) : unl (x :: xs) (y :: ys) = y.1 :: unl (x :: xs) ys := by rw [unl, if_neg (by simp [h]), if_pos k]
theorem unl_eq {x y : Pr} (xs ys : List Pr) (h : ltB x.1 y.1 = false) (k : ltB y.1 x.1 = false) (e : eqP x y = true) : unl (x :: xs) (y :: ys) = unl xs ys := by rw [unl, if_neg (by simp [h]), if_neg (by simp [k]), if_pos e]
theorem unl_ne {x y : Pr} (xs ys : List Pr) (h : ltB x.1 y.1 = false) (k : ltB y.1 x.1 = false) (e : eqP x y = false) : unl (x :: xs) (y :: ys) = x.1 :: unl xs ys := by rw [unl, if_neg (by simp [h]), if_neg (by simp [k]), if_neg (by simp [e])]
theorem app_cons' {α : Type} (l r : List α) (x : α) : l ++ x :: r = (l ++ [x]) ++ r := by simp
theorem RP.tail {w : World} {S : Nat → Prop} {b o n c : Nat} {x : Pr} {us : List Pr} (h : RP w S (some ⟨b, o, none⟩) n (x :: us)) (hc : n ≤ c) : RP w S (if c = 1 then some ⟨b, o, none⟩ else some ⟨b, o + 2, none⟩) (n - 1) us :=
  ⟨by have := h.len; simp at this; omega, by have := h.bd; omega, fun hn => by
    obtain ⟨b', o', e, hb, hl, hcl⟩ := h.row (by omega)
    cases e
    rw [if_neg (by omega)]
    refine ⟨b, o + 2, rfl, hb, hl, fun i k hk => ?_⟩
    have := hcl (i + 1) k (by simpa using hk)
    rw [show o + (i + 1) * 2 = o + 2 + i * 2 by omega] at this
    exact this⟩
set_option linter.unusedVariables false in
set_option linter.unusedSimpArgs false in
set_option linter.unusedVariables false in
set_option linter.unusedSimpArgs false in
set_option linter.unusedVariables false in
set_option linter.unusedSimpArgs false in
set_option linter.unusedVariables false in
set_option linter.unusedSimpArgs false in
set_option linter.unusedVariables false in
set_option linter.unusedSimpArgs false in
set_option linter.unusedVariables false in
set_option linter.unusedSimpArgs false in
set_option linter.unusedVariables false in
set_option linter.unusedSimpArgs false in
set_option linter.unusedVariables false in
set_option linter.unusedSimpArgs false in
set_option maxRecDepth 100000 in
set_option maxHeartbeats 8000000 in
theorem unlike_any (A B : Option Addr) (n c m d : Nat) (xs ys : List Pr) (w : World) (S T : Nat → Prop) (h1 : RP w S A n xs) (h2 : RP w T B m ys) (hn : n ≤ 1000) (hm : m ≤ 1000) (hc : n ≤ c) (hd : m ≤ d) :
    Calls Try.prog 72 #[.slice A n c, .slice B m d] w fun e w' => ∃ v, e = .returned v ∧ OwnT w' w.heap.size v (unl xs ys) ∧ Below w.heap.size w w' := by
  have H1 := Kp.mk h1
  have H2 := Kp.mk h2
  clear h1 h2
  go_enter Try.func72, Try.ntmps72
  go_wp2
  go_loopw [0, 1, 5] (fun a b o wr => ∃ (A1 B1 : Option Addr) (n1 c1 m1 d1 : Nat) (A3 : Option Addr) (k3 c3 : Nat) (us vs : List Pr) (out : List ByteArray), a = .slice A1 n1 c1 ∧ b = .slice B1 m1 d1 ∧ o = .slice A3 k3 c3 ∧ n1 ≤ 1000 ∧ m1 ≤ 1000 ∧ n1 ≤ c1 ∧ m1 ≤ d1 ∧ n1 + m1 + k3 ≤ n + m ∧ Kp (RP w S A1 n1 us) ∧ Kp (RP w T B1 m1 vs) ∧ Kp (OwnT wr w.heap.size (.slice A3 k3 c3) out) ∧ Kp (out.length = k3) ∧ Kp (out ++ unl us vs = unl xs ys) ∧ Kp (Below w.heap.size w wr)) (fun a b _ _ => lenV a + lenV b)
  case atStart => exact ⟨A, B, n, c, m, d, none, 0, 0, xs, ys, [], rfl, rfl, rfl, hn, hm, hc, hd, by omega, H1, H2, ⟨OwnT.nil _ _⟩, ⟨rfl⟩, ⟨rfl⟩, ⟨Below.refl _ _⟩⟩
  case round =>
    clear H1 H2
    obtain ⟨A1, B1, n1, c1, m1, d1, A3, k3, c3, us, vs, out, rfl, rfl, rfl, hn1, hm1, hc1, hc2, hsum, H1, H2, HO, HK, HE, HB⟩ := hrel
    have HZ := Kp.mk HB.it.size
    have HN5 : Kp (out.length + 1 ≤ 100000000) := ⟨by rw [HK.it]; omega⟩
    rcases us with _ | ⟨x, us⟩
    · rcases vs with _ | ⟨y, vs⟩
      · obtain rfl : n1 = 0 := by have := H1.it.len; simp at this; omega
        have hd1 : decide ((0 : Int) < ((0 : Nat) : Int)) = false := by decide
        have hq1 : (((0 : Nat) : Int) == 0) = true := by decide
        obtain rfl : m1 = 0 := by have := H2.it.len; simp at this; omega
        have hd2 : decide ((0 : Int) < ((0 : Nat) : Int)) = false := by decide
        have hq2 : (((0 : Nat) : Int) == 0) = true := by decide
        have HV : Kp (out = unl xs ys) := ⟨by have := HE.it; rwa [unl_nn, List.append_nil] at this⟩
        go_wp2
        go_ret
        exact ⟨_, rfl, by rw [← HV.it]; exact HO.it, HB.it⟩
      · obtain rfl : n1 = 0 := by have := H1.it.len; simp at this; omega
        have hd1 : decide ((0 : Int) < ((0 : Nat) : Int)) = false := by decide
        have hq1 : (((0 : Nat) : Int) == 0) = true := by decide
        have p1m : 0 < m1 := by have := H2.it.len; simp at this; omega
        obtain ⟨b2, o2, hB, hS2, l2, g0, g1⟩ := (H2.it.below HB.it).get (i := 0) (k := y) rfl
        subst hB
        rw [Nat.zero_mul, Nat.add_zero] at g0 g1
        have hd2 : decide ((0 : Int) < (m1 : Int)) = true := by simp; omega
        have hq2 : ((m1 : Int) == 0) = false := by rw [beq_eq_false_iff_ne]; omega
        have h1m : (1 : Int) ≤ (m1 : Int) := by omega
        have z1m : (0 : Int) < (m1 : Int) := by omega
        go_wp2
        go_quiet (fail)
        go_wp2
        go_quiet (fail)
        go_wp2
        go_region_law (refine step_t1 rfl (.tmp 76) (.tmp 81) rfl w.heap.size (.slice A3 k3 c3) out y.1 rfl rfl HO.it HZ.it HN5.it ?_; intro g cap w6 ho6 hg6; have O6 := Kp.mk ho6; have B6 : Kp (Below w.heap.size w w6) := ⟨below_ownT HB.it HZ.it HO.it (Nat.le_refl _) ⟨hg6.os, hg6.tape, hg6.output, hg6.size, hg6.block⟩⟩; clear ho6 hg6)
        all_goals
          change Exit.inBlock 2 (Exit.inBlock 1 _) Exit.normal (Act.put (Act.put _ (some 5) _) (some 1) _) _
          simp only [Act.put, List.setIfInBounds_toArray, List.set_cons_succ, List.set_cons_zero]
          go_wp2
          go_roundw
          case rel => exact ⟨_, _, 0, c1, m1 - 1, d1 - 1, _, out.length + 1, cap, [], vs, out ++ [y.1], rfl, rfl, rfl, by omega, by omega, by omega, by omega, by rw [HK.it]; omega, ⟨H1.it⟩, ⟨H2.it.tail hc2⟩, O6, ⟨by simp⟩, ⟨by rw [← app_cons', ← unl_nc]; exact HE.it⟩, B6⟩
          case measure => simp [lenV]; omega
    · rcases vs with _ | ⟨y, vs⟩
      · obtain rfl : m1 = 0 := by have := H2.it.len; simp at this; omega
        have hd2 : decide ((0 : Int) < ((0 : Nat) : Int)) = false := by decide
        have hq2 : (((0 : Nat) : Int) == 0) = true := by decide
        have p1n : 0 < n1 := by have := H1.it.len; simp at this; omega
        obtain ⟨b1, o1, hA, hS1, l1, f0, f1⟩ := (H1.it.below HB.it).get (i := 0) (k := x) rfl
        subst hA
        rw [Nat.zero_mul, Nat.add_zero] at f0 f1
        have hd1 : decide ((0 : Int) < (n1 : Int)) = true := by simp; omega
        have hq1 : ((n1 : Int) == 0) = false := by rw [beq_eq_false_iff_ne]; omega
        have h1n : (1 : Int) ≤ (n1 : Int) := by omega
        have z1n : (0 : Int) < (n1 : Int) := by omega
        go_wp2
        go_quiet (fail)
        go_wp2
        go_region_law (refine step_t1 rfl (.tmp 52) (.tmp 57) rfl w.heap.size (.slice A3 k3 c3) out x.1 rfl rfl HO.it HZ.it HN5.it ?_; intro g cap w6 ho6 hg6; have O6 := Kp.mk ho6; have B6 : Kp (Below w.heap.size w w6) := ⟨below_ownT HB.it HZ.it HO.it (Nat.le_refl _) ⟨hg6.os, hg6.tape, hg6.output, hg6.size, hg6.block⟩⟩; clear ho6 hg6)
        all_goals
          change Exit.inBlock 2 (Exit.inBlock 1 _) Exit.normal (Act.put (Act.put _ (some 5) _) (some 0) _) _
          simp only [Act.put, List.setIfInBounds_toArray, List.set_cons_succ, List.set_cons_zero]
          go_wp2
          go_roundw
          case rel => exact ⟨_, _, n1 - 1, c1 - 1, 0, d1, _, out.length + 1, cap, us, [], out ++ [x.1], rfl, rfl, rfl, by omega, by omega, by omega, by omega, by rw [HK.it]; omega, ⟨H1.it.tail hc1⟩, ⟨H2.it⟩, O6, ⟨by simp⟩, ⟨by rw [← app_cons', ← unl_cn]; exact HE.it⟩, B6⟩
          case measure => simp [lenV]; omega
      · have p1n : 0 < n1 := by have := H1.it.len; simp at this; omega
        have p1m : 0 < m1 := by have := H2.it.len; simp at this; omega
        obtain ⟨b1, o1, hA, hS1, l1, f0, f1⟩ := (H1.it.below HB.it).get (i := 0) (k := x) rfl
        subst hA
        rw [Nat.zero_mul, Nat.add_zero] at f0 f1
        have hd1 : decide ((0 : Int) < (n1 : Int)) = true := by simp; omega
        have hq1 : ((n1 : Int) == 0) = false := by rw [beq_eq_false_iff_ne]; omega
        have h1n : (1 : Int) ≤ (n1 : Int) := by omega
        have z1n : (0 : Int) < (n1 : Int) := by omega
        obtain ⟨b2, o2, hB, hS2, l2, g0, g1⟩ := (H2.it.below HB.it).get (i := 0) (k := y) rfl
        subst hB
        rw [Nat.zero_mul, Nat.add_zero] at g0 g1
        have hd2 : decide ((0 : Int) < (m1 : Int)) = true := by simp; omega
        have hq2 : ((m1 : Int) == 0) = false := by rw [beq_eq_false_iff_ne]; omega
        have h1m : (1 : Int) ≤ (m1 : Int) := by omega
        have z1m : (0 : Int) < (m1 : Int) := by omega
        cases hlt : Op.bytesLess x.1.toList y.1.toList with
        | true =>
          have HLT : Kp (ltB x.1 y.1 = true) := ⟨hlt⟩
          go_wp2
          go_quiet (fail)
          go_wp2
          go_region_law (refine step_t1 rfl (.tmp 52) (.tmp 57) rfl w.heap.size (.slice A3 k3 c3) out x.1 rfl rfl HO.it HZ.it HN5.it ?_; intro g cap w6 ho6 hg6; have O6 := Kp.mk ho6; have B6 : Kp (Below w.heap.size w w6) := ⟨below_ownT HB.it HZ.it HO.it (Nat.le_refl _) ⟨hg6.os, hg6.tape, hg6.output, hg6.size, hg6.block⟩⟩; clear ho6 hg6)
          all_goals
            change Exit.inBlock 2 (Exit.inBlock 1 _) Exit.normal (Act.put (Act.put _ (some 5) _) (some 0) _) _
            simp only [Act.put, List.setIfInBounds_toArray, List.set_cons_succ, List.set_cons_zero]
            go_wp2
            go_roundw
            case rel => exact ⟨_, _, n1 - 1, c1 - 1, m1, d1, _, out.length + 1, cap, us, y :: vs, out ++ [x.1], rfl, rfl, rfl, by omega, by omega, by omega, by omega, by rw [HK.it]; omega, ⟨H1.it.tail hc1⟩, ⟨H2.it⟩, O6, ⟨by simp⟩, ⟨by rw [← app_cons', ← unl_lt _ _ HLT.it]; exact HE.it⟩, B6⟩
            case measure => simp [lenV]; omega
        | false =>
          have HLT : Kp (ltB x.1 y.1 = false) := ⟨hlt⟩
          cases hgt : Op.bytesLess y.1.toList x.1.toList with
          | true =>
            have HGT : Kp (ltB y.1 x.1 = true) := ⟨hgt⟩
            go_wp2
            go_quiet (fail)
            go_wp2
            go_quiet (fail)
            go_wp2
            go_region_law (refine step_t1 rfl (.tmp 76) (.tmp 81) rfl w.heap.size (.slice A3 k3 c3) out y.1 rfl rfl HO.it HZ.it HN5.it ?_; intro g cap w6 ho6 hg6; have O6 := Kp.mk ho6; have B6 : Kp (Below w.heap.size w w6) := ⟨below_ownT HB.it HZ.it HO.it (Nat.le_refl _) ⟨hg6.os, hg6.tape, hg6.output, hg6.size, hg6.block⟩⟩; clear ho6 hg6)
            all_goals
              change Exit.inBlock 2 (Exit.inBlock 1 _) Exit.normal (Act.put (Act.put _ (some 5) _) (some 1) _) _
              simp only [Act.put, List.setIfInBounds_toArray, List.set_cons_succ, List.set_cons_zero]
              go_wp2
              go_roundw
              case rel => exact ⟨_, _, n1, c1, m1 - 1, d1 - 1, _, out.length + 1, cap, x :: us, vs, out ++ [y.1], rfl, rfl, rfl, by omega, by omega, by omega, by omega, by rw [HK.it]; omega, ⟨H1.it⟩, ⟨H2.it.tail hc2⟩, O6, ⟨by simp⟩, ⟨by rw [← app_cons', ← unl_gt _ _ HLT.it HGT.it]; exact HE.it⟩, B6⟩
              case measure => simp [lenV]; omega
          | false =>
            have HGT : Kp (ltB y.1 x.1 = false) := ⟨hgt⟩
            cases hk1 : (x.1.toList == y.1.toList) with
            | false =>
              have HQ : Kp (unl (x :: us) (y :: vs) = x.1 :: unl us vs) := ⟨unl_ne _ _ HLT.it HGT.it (by unfold eqP; simp [hk1])⟩
              go_wp2
              go_quiet (fail)
              go_wp2
              go_quiet (fail)
              go_wp2
              go_quiet (fail)
              have HLN : Kp ((out ++ [x.1]).length = out.length + 1) := ⟨by simp⟩
              have HLM : Kp ((out ++ [x.1]).length ≤ 100000000) := ⟨by rw [HLN.it]; exact HN5.it⟩
              go_wp2_with (refine app_t1 rfl (.tmp 21) (.tmp 26) rfl w.heap.size (.slice A3 k3 c3) out x.1 rfl rfl HO.it HZ.it HN5.it ?_; intro v1 w6 ho6 hg6; obtain ⟨A8, c8, hv8, _, _, _⟩ := ho6.form HLM.it; rw [HLN.it] at hv8; subst hv8; have O6 := Kp.mk ho6; have B6 : Kp (Below w.heap.size w w6) := ⟨below_ownT HB.it HZ.it HO.it (Nat.le_refl _) ⟨hg6.os, hg6.tape, hg6.output, hg6.size, hg6.block⟩⟩; clear ho6 hg6)
              go_quiet (fail)
              go_wp2
              go_roundw
              case rel => exact ⟨_, _, n1 - 1, c1 - 1, m1 - 1, d1 - 1, A8, out.length + 1, c8, us, vs, out ++ [x.1], rfl, rfl, rfl, by omega, by omega, by omega, by omega, by rw [HK.it]; omega, ⟨H1.it.tail hc1⟩, ⟨H2.it.tail hc2⟩, O6, HLN, ⟨by rw [← app_cons', ← HQ.it]; exact HE.it⟩, ⟨⟨B6.it.os, B6.it.tape, B6.it.output, B6.it.size, B6.it.block⟩⟩⟩
              case measure => simp [lenV]; omega
            | true =>
              cases hk2 : (x.2.toList == y.2.toList) with
              | false =>
                have HQ : Kp (unl (x :: us) (y :: vs) = x.1 :: unl us vs) := ⟨unl_ne _ _ HLT.it HGT.it (by unfold eqP; simp [hk1, hk2])⟩
                go_wp2
                go_quiet (fail)
                go_wp2
                go_quiet (fail)
                go_wp2
                go_quiet (fail)
                have HLN : Kp ((out ++ [x.1]).length = out.length + 1) := ⟨by simp⟩
                have HLM : Kp ((out ++ [x.1]).length ≤ 100000000) := ⟨by rw [HLN.it]; exact HN5.it⟩
                go_wp2_with (refine app_t1 rfl (.tmp 21) (.tmp 26) rfl w.heap.size (.slice A3 k3 c3) out x.1 rfl rfl HO.it HZ.it HN5.it ?_; intro v1 w6 ho6 hg6; obtain ⟨A8, c8, hv8, _, _, _⟩ := ho6.form HLM.it; rw [HLN.it] at hv8; subst hv8; have O6 := Kp.mk ho6; have B6 : Kp (Below w.heap.size w w6) := ⟨below_ownT HB.it HZ.it HO.it (Nat.le_refl _) ⟨hg6.os, hg6.tape, hg6.output, hg6.size, hg6.block⟩⟩; clear ho6 hg6)
                go_quiet (fail)
                go_wp2
                go_roundw
                case rel => exact ⟨_, _, n1 - 1, c1 - 1, m1 - 1, d1 - 1, A8, out.length + 1, c8, us, vs, out ++ [x.1], rfl, rfl, rfl, by omega, by omega, by omega, by omega, by rw [HK.it]; omega, ⟨H1.it.tail hc1⟩, ⟨H2.it.tail hc2⟩, O6, HLN, ⟨by rw [← app_cons', ← HQ.it]; exact HE.it⟩, ⟨⟨B6.it.os, B6.it.tape, B6.it.output, B6.it.size, B6.it.block⟩⟩⟩
                case measure => simp [lenV]; omega
              | true =>
                have HQ : Kp (unl (x :: us) (y :: vs) = unl us vs) := ⟨unl_eq _ _ HLT.it HGT.it (by unfold eqP; simp [hk1, hk2])⟩
                go_wp2
                go_quiet (fail)
                go_wp2
                go_quiet (fail)
                go_wp2
                go_quiet (fail)
                go_wp2
                go_quiet (fail)
                go_wp2
                go_roundw
                case rel => exact ⟨_, _, n1 - 1, c1 - 1, m1 - 1, d1 - 1, A3, k3, c3, us, vs, out, rfl, rfl, rfl, by omega, by omega, by omega, by omega, by omega, ⟨H1.it.tail hc1⟩, ⟨H2.it.tail hc2⟩, HO, HK, ⟨by rw [← HQ.it]; exact HE.it⟩, ⟨⟨HB.it.os, HB.it.tape, HB.it.output, HB.it.size, HB.it.block⟩⟩⟩
                case measure => simp [lenV]; omega
end Go.Proofs.Ytcmkjoepndbicaa
