/-
  The functions that order's sorting calls.
-/
import Derived.Test.YtnkgagbobihnnaaOrd
import Derived.Test.YtnkgagbobihnnaaLea
import Derived.Test.YtnkgagbobihnnaaShelf
import Derived.BigRegion
namespace Go.Proofs.Ytnkgagbobihnnaa
open Go Go.RowKit
attribute [local go_sem ↓] Go.wp_at_zero Go.wp_at_succ

/-- The boxes of order, and the ranks. -/
structure OM (w : World) (Nn R Kb S rb n k : Nat) (rk : List Int) : Prop where
  hN : w.heap[Nn]? = some (.cells #[.int .i64 (n : Int)] 3 (0, 0))
  hR : w.heap[R]? = some (.cells #[.slice (some ⟨rb, 0, none⟩) n n] 22 (0, 0))
  hK : w.heap[Kb]? = some (.cells #[.int .i64 (k : Int)] 3 (0, 0))
  hS : w.heap[S]? = some (.cells #[.func (.func 89) #[] #[.pointer (some ⟨R, 0, none⟩), .pointer (some ⟨Kb, 0, none⟩), .pointer (some ⟨Nn, 0, none⟩)]] 86 (0, 0))
  row : Blk w rb rk
  len : rk.length = n
theorem OM.keep {w w' : World} {Nn R Kb S rb n k : Nat} {rk : List Int} (h : OM w Nn R Kb S rb n k rk) (hw : ∀ i, i = Nn ∨ i = R ∨ i = Kb ∨ i = S ∨ i = rb → w'.heap[i]? = w.heap[i]?) : OM w' Nn R Kb S rb n k rk :=
  ⟨(hw _ (.inl rfl)).trans h.hN, (hw _ (.inr (.inl rfl))).trans h.hR, (hw _ (.inr (.inr (.inl rfl)))).trans h.hK, (hw _ (.inr (.inr (.inr (.inl rfl))))).trans h.hS, (hw _ (.inr (.inr (.inr (.inr rfl))))).trans h.row, h.len⟩
theorem OM.drewN {w : World} {Nn R Kb S rb n k : Nat} {rk : List Int} (h : OM w Nn R Kb S rb n k rk) (q : Nat) : OM (w.drewN q) Nn R Kb S rb n k rk := h.keep fun _ _ => rfl
set_option maxHeartbeats 1000000 in
theorem second_any {w : World} {Nn R Kb S rb n k : Nat} {rk : List Int} (h : OM w Nn R Kb S rb n k rk) (i : Nat) (hi : i < n) (hk : k ≤ 100000000) (hn : n ≤ 100000000) :
    Calls Try.prog 89 #[.int .i64 i, .pointer (some ⟨R, 0, none⟩), .pointer (some ⟨Kb, 0, none⟩), .pointer (some ⟨Nn, 0, none⟩)] w fun e w' => e = .returned (.int .i64 (rd rk ((i + k) % n))) ∧ ∃ q, w' = w.drewN q := by
  have c1 := blk_cell (o := 0) h.hN rfl
  have c2 := blk_cell (o := 0) h.hR rfl
  have c3 := blk_cell (o := 0) h.hK rfl
  obtain ⟨Q, hQ⟩ : ∃ Q, Q = (i + k) % n := ⟨_, rfl⟩
  have hQn : Q < n := by rw [hQ]; exact Nat.mod_lt _ (by omega)
  have c4 := h.row.cell (j := Q) (by rw [h.len]; exact hQn)
  have hm : ((i : Int) + (k : Int)) % (n : Int) = (Q : Int) := by rw [hQ]; simp
  have hn0 : ((n : Int) == 0) = false := by simp; omega
  have hQ2 : (Q : Int) < (n : Int) := by omega
  rw [← hQ]
  obtain ⟨v, hv⟩ : ∃ v, v = rd rk Q := ⟨_, rfl⟩
  rw [← hv] at c4 ⊢
  clear h hQ hv
  go_enter Try.func89, Try.ntmps89
  go_wp2
  go_region
  all_goals
    go_wp2
    go_ret
    exact ⟨rfl, 1, rfl⟩
/-- The second rank. -/
def sv (rk : List Int) (n k i : Nat) : Int := rd rk ((i + k) % n)
/-- The comparison. -/
def cfO (rk : List Int) (n k x y : Nat) : Int :=
  if rd rk x ≠ rd rk y then rd rk x - rd rk y else if sv rk n k x ≠ sv rk n k y then sv rk n k x - sv rk n k y else (x : Int) - (y : Int)
set_option maxHeartbeats 2000000 in
theorem less_any {w : World} {Nn R Kb S rb n k : Nat} {rk : List Int} (h : OM w Nn R Kb S rb n k rk) (x y : Nat) (hx : x < n) (hy : y < n) (hk : k ≤ 100000000) (hn : n ≤ 100000000) (hrk : ∀ j, j < n → 0 ≤ rd rk j ∧ rd rk j ≤ 1000000000) :
    Calls Try.prog 90 #[.int .i64 x, .int .i64 y, .pointer (some ⟨R, 0, none⟩), .pointer (some ⟨S, 0, none⟩)] w fun e w' => e = .returned (.int .i64 (cfO rk n k x y)) ∧ ∃ q, w' = w.drewN q := by
  have c2 := blk_cell (o := 0) h.hR rfl
  have c5 := blk_cell (o := 0) h.hS rfl
  have cx := h.row.cell (j := x) (by rw [h.len]; exact hx)
  have cy := h.row.cell (j := y) (by rw [h.len]; exact hy)
  have hxb := hrk x hx
  have hyb := hrk y hy
  have HS : Kp (∀ q i, i < n → Calls Try.prog 89 #[.int .i64 (i : Int), .pointer (some ⟨R, 0, none⟩), .pointer (some ⟨Kb, 0, none⟩), .pointer (some ⟨Nn, 0, none⟩)] (w.drew.drewN q) fun e w' => e = .returned (.int .i64 (sv rk n k i)) ∧ ∃ q', w' = (w.drew.drewN q).drewN q') := ⟨fun q i hi => second_any ((h.drewN 1).drewN q) i hi hk hn⟩
  have HS2 : Kp (∀ q0 q i, i < n → Calls Try.prog 89 #[.int .i64 (i : Int), .pointer (some ⟨R, 0, none⟩), .pointer (some ⟨Kb, 0, none⟩), .pointer (some ⟨Nn, 0, none⟩)] ((w.drew.drewN q0).drewN q) fun e w' => e = .returned (.int .i64 (sv rk n k i)) ∧ ∃ q', w' = ((w.drew.drewN q0).drewN q).drewN q') := ⟨fun q0 q i hi => second_any (((h.drewN 1).drewN q0).drewN q) i hi hk hn⟩
  have hsx : 0 ≤ sv rk n k x ∧ sv rk n k x ≤ 1000000000 := hrk ((x + k) % n) (Nat.mod_lt _ (by omega))
  have hsy : 0 ≤ sv rk n k y ∧ sv rk n k y ≤ 1000000000 := hrk ((y + k) % n) (Nat.mod_lt _ (by omega))
  have HXN := Kp.mk hx
  have HYN := Kp.mk hy
  have hx2 : (x : Int) < (n : Int) := by omega
  have hy2 : (y : Int) < (n : Int) := by omega
  have hCF : Kp (cfO rk n k x y = if rd rk x ≠ rd rk y then rd rk x - rd rk y else if sv rk n k x ≠ sv rk n k y then sv rk n k x - sv rk n k y else (x : Int) - (y : Int)) := ⟨rfl⟩
  obtain ⟨a, ha⟩ : ∃ a, a = rd rk x := ⟨_, rfl⟩
  obtain ⟨b, hb⟩ : ∃ b, b = rd rk y := ⟨_, rfl⟩
  rw [← ha] at cx hxb
  rw [← hb] at cy hyb
  rw [← ha, ← hb] at hCF
  clear ha hb h hrk hx hy
  by_cases hab : a = b
  · rw [if_neg (by simp [hab])] at hCF
    subst hab
    have hq1 : (a != a) = false := by simp
    by_cases hcd : sv rk n k x = sv rk n k y
    · rw [if_neg (by simp [hcd])] at hCF
      have hq2 : (sv rk n k x != sv rk n k y) = false := by simp [hcd]
      clear hcd
      go_enter Try.func90, Try.ntmps90
      go_wp2
      go_region
      all_goals
        go_wp2
        generalize hw2 : w.drew = w2 at HS HS2 ⊢
        have HW2 : Kp (w2 = w.drewN 1) := ⟨hw2.symm⟩
        have c5 : w2.cell? ⟨S, 0, none⟩ = some (.func (.func 89) #[] #[.pointer (some ⟨R, 0, none⟩), .pointer (some ⟨Kb, 0, none⟩), .pointer (some ⟨Nn, 0, none⟩)]) := by rw [← hw2]; exact c5
        clear hw2
        go_quiet (exact Calls.quiet_of (HS.it _ _ (by first | exact HXN.it | exact HYN.it)))
        go_wp2
        go_ret
        exact ⟨by rw [hCF.it]; rfl, 1 + nq, by rw [HW2.it, World.drewN_drewN]⟩
    · rw [if_pos (by simpa using hcd)] at hCF
      have hq2 : (sv rk n k x != sv rk n k y) = true := by simpa using hcd
      clear hcd
      go_enter Try.func90, Try.ntmps90
      go_wp2
      go_region
      all_goals
        go_wp2
        generalize hw2 : w.drew = w2 at HS HS2 ⊢
        have HW2 : Kp (w2 = w.drewN 1) := ⟨hw2.symm⟩
        have c5 : w2.cell? ⟨S, 0, none⟩ = some (.func (.func 89) #[] #[.pointer (some ⟨R, 0, none⟩), .pointer (some ⟨Kb, 0, none⟩), .pointer (some ⟨Nn, 0, none⟩)]) := by rw [← hw2]; exact c5
        clear hw2
        go_quiet (exact Calls.quiet_of (HS.it _ _ (by first | exact HXN.it | exact HYN.it)))
        go_wp2
        have HS3 : Kp (∀ q i, i < n → Calls Try.prog 89 #[.int .i64 (i : Int), .pointer (some ⟨R, 0, none⟩), .pointer (some ⟨Kb, 0, none⟩), .pointer (some ⟨Nn, 0, none⟩)] ((w2.drewN nq).drewN q) fun e w' => e = .returned (.int .i64 (sv rk n k i)) ∧ ∃ q', w' = ((w2.drewN nq).drewN q).drewN q') := ⟨fun q i hi => HS2.it nq q i hi⟩
        generalize hw3 : w2.drewN nq = w3 at HS3 ⊢
        have HW3 : Kp (w3 = w2.drewN nq) := ⟨hw3.symm⟩
        have c5 : w3.cell? ⟨S, 0, none⟩ = some (.func (.func 89) #[] #[.pointer (some ⟨R, 0, none⟩), .pointer (some ⟨Kb, 0, none⟩), .pointer (some ⟨Nn, 0, none⟩)]) := by rw [← hw3]; exact c5
        clear hw3
        go_quiet (exact Calls.quiet_of (HS3.it _ _ (by first | exact HXN.it | exact HYN.it)))
        go_wp2
        go_ret
        rename_i nq2
        exact ⟨by rw [hCF.it]; rfl, 1 + nq + nq2, by rw [HW3.it, HW2.it, World.drewN_drewN, World.drewN_drewN]; congr 1; omega⟩
  · rw [if_pos (by simpa using hab)] at hCF
    have hq1 : (a != b) = true := by simpa using hab
    clear hab
    go_enter Try.func90, Try.ntmps90
    go_wp2
    go_region
    all_goals
      go_wp2
      go_region
      all_goals
        go_wp2
        go_ret
        exact ⟨by rw [hCF.it]; rfl, 2, rfl⟩
end Go.Proofs.Ytnkgagbobihnnaa
