/-
  Pairs of the program and of the reference; Same; paths that came in.
-/
import Derived.Test.YtcmkjoepndbicaaAlp
namespace Go.Proofs.Ytcmkjoepndbicaa
open Go.ChangeShapes Go.WideShapes Go.ChangeAt Go.RowKit Go.Joins Go.Deep

/-- What Pairs gives. -/
def PairsP (ok : Bool) (L : List Pr) (w : World) (e : Ending) (w' : World) : Prop :=
  (ok = true → ∃ A n c, e = .returned (.tuple #[.slice A n c, .int .i64 0]) ∧ OwnP w' w.heap.size (.slice A n c) L) ∧ (ok = false → e = .returned (.tuple #[.slice none 0 0, .int .i64 1])) ∧ Below w.heap.size w w'
set_option maxRecDepth 100000 in
set_option maxHeartbeats 8000000 in
theorem pairs_any (ka kb : BitVec 64) (S : Nat → Prop) (l : List Pr) (t : Nat) (A : Option Addr) (m c : Nat) (path : List Int) (w : World) (T : TreeS ka kb S l t w) (P : Rd w A m path) (hS : ∀ b, w.heap.size ≤ b → S b) (hR : Rise l) (hl : l.length ≤ 1000) :
    Calls Try.prog 34 #[.pointer (some ⟨t, 0, none⟩), .slice A m c] w fun e w' => PairsP (okP path 4) (inP ka kb path l) w e w' := by
  have HF := Kp.mk (find_any ka kb S l t A m c path w T P hS)
  have HRI := Kp.mk (inP_rise ka kb path hR)
  have HLE : Kp ((inP ka kb path l).length ≤ 1000) := ⟨Nat.le_trans (inP_le ka kb path l) hl⟩
  clear T P hS hR hl
  obtain ⟨L, hL⟩ : ∃ L, L = inP ka kb path l := ⟨_, rfl⟩
  rw [← hL] at HF HRI HLE ⊢
  clear hL
  go_enter Try.func34, Try.ntmps34
  go_wp2_with fail
  go_at_call 62
  refine HF.it.mono ?_
  rintro e w1 ⟨h1, h2, hb1⟩
  have B1 := Kp.mk hb1
  clear hb1 HF
  cases hok : okP path 4 with
  | false =>
    obtain rfl := h2 hok
    have HO := Kp.mk hok
    have he : ((1 : Int) != 0) = true := by decide
    clear h1 h2 hok
    go_wp2
    go_ret2
    exact ⟨(fun h => by rw [HO.it] at h; cases h), fun _ => rfl, B1.it⟩
  | true =>
    obtain ⟨px, rfl, tx⟩ := h1 hok
    have HO := Kp.mk hok
    have he : ((0 : Int) != 0) = false := by decide
    have HT := Kp.mk (Tr.relax (S' := fun q => q < w1.heap.size) (fun b _ hlt => hlt) _ tx)
    obtain ⟨f, hf⟩ : ∃ f, f = 4 - m := ⟨_, rfl⟩
    rw [← hf] at HT
    clear h1 h2 hok tx hf
    go_wp2_with fail
    go_at_call 64
    refine (all_any ka kb f w1.heap.size px L none 0 0 [] w1 HT.it (OwnP.nil _ _) (Nat.le_refl _) (by have := HLE.it; simp; omega)).mono ?_
    rintro e w2 ⟨A4, k4, c4, rfl, ho2, hb2⟩
    rw [List.nil_append] at ho2
    have B2 := Kp.mk (B1.it.trans (hb2.mono B1.it.size))
    have O2 := Kp.mk ho2
    have HZ2 : Kp (w1.heap.size ≤ w2.heap.size) := ⟨hb2.size⟩
    have HND : Kp ((flatP ka kb f L).map keyP).Nodup := ⟨nodup_perm (flatP_perm ka kb f L).symm (rise_nodup HRI.it)⟩
    have HLF : Kp ((flatP ka kb f L).length ≤ 100000) := ⟨by rw [flatP_len]; have := HLE.it; omega⟩
    clear ho2 hb2
    go_wp2_with fail
    go_at_call 48
    refine (sort_q (.slice A4 k4 c4) _ w2 w1.heap.size O2.it HLF.it HND.it).mono ?_
    rintro e w3 ⟨rfl, ho3, hg3⟩
    rw [flatP_sort ka kb f HRI.it] at ho3
    have O3 := Kp.mk ho3
    have B3 : Kp (Below w.heap.size w w3) := ⟨below_ownP B2.it B2.it.size O2.it B1.it.size hg3⟩
    clear ho3 hg3
    go_wp2
    go_ret2
    exact ⟨fun _ => ⟨_, _, _, rfl, O3.it.relax B1.it.size⟩, (fun h => by rw [HO.it] at h; cases h), B3.it⟩
set_option maxRecDepth 100000 in
set_option maxHeartbeats 8000000 in
theorem rpairs_any (ka kb : BitVec 64) (S0 : Nat → Prop) (t : Nat) (l : List Pr) (hl : l.length ≤ 1000) (hs : ∀ p ∈ l, p.1.size ≤ 140737488351232) (A : Option Addr) (m c : Nat) (path : List Int) (w : World) (T : RTr ka kb S0 l t w) (P : Rd w A m path) :
    Calls Try.prog 35 #[.pointer (some ⟨t, 0, none⟩), .slice A m c] w fun e w' => PairsP (okP path 4) (inP ka kb path l) w e w' := by
  have HPL := Kp.mk P.len
  have HP := Kp.mk P
  have HT := Kp.mk T
  have HR := Kp.mk (right_any A m c path 4 w P)
  have HIN : Kp (∀ w1, Below w.heap.size w w1 → m ≤ 4 → Calls Try.prog 59 #[.pointer (some ⟨t, 0, none⟩), .slice A m c] w1 fun e w' => ∃ v, e = .returned v ∧ OwnP w' w1.heap.size v (inP ka kb path l) ∧ Below w1.heap.size w1 w') := ⟨fun w1 hb hm => in_any ka kb S0 t l A m c path w1 (HT.it.below hb) (HP.it.below hb) hm hl hs⟩
  have HLE : Kp ((inP ka kb path l).length ≤ 1000) := ⟨Nat.le_trans (inP_le ka kb path l) hl⟩
  clear T P hl hs
  obtain ⟨L, hL⟩ : ∃ L, L = inP ka kb path l := ⟨_, rfl⟩
  rw [← hL] at HIN HLE ⊢
  clear hL
  go_enter Try.func35, Try.ntmps35
  go_wp2_with fail
  go_at_call 63
  refine HR.it.mono ?_
  rintro e w1 ⟨rfl, hb1⟩
  have B1 := Kp.mk hb1
  clear hb1 HR
  cases hok : okP path 4 with
  | false =>
    have HO := Kp.mk hok
    clear hok
    go_wp2
    go_ret2
    exact ⟨(fun h => by rw [HO.it] at h; cases h), fun _ => rfl, B1.it⟩
  | true =>
    have HO := Kp.mk hok
    have HM : Kp (m ≤ 4) := ⟨by
      unfold okP at hok
      rw [HPL.it] at hok
      have := (Bool.and_eq_true_iff.1 hok).1
      simpa using this⟩
    clear hok
    go_wp2_with fail
    go_at_call 59
    refine (HIN.it w1 B1.it HM.it).mono ?_
    rintro e w2 ⟨v, rfl, ho2, hb2⟩
    obtain ⟨A4, c4, rfl, _, _, _⟩ := ho2.form (by have := HLE.it; omega)
    have O2 := Kp.mk (ho2.relax B1.it.size)
    have B2 := Kp.mk (B1.it.trans (hb2.mono B1.it.size))
    clear ho2 hb2
    obtain ⟨k4, hk4⟩ : ∃ k, k = L.length := ⟨_, rfl⟩
    rw [← hk4] at O2 ⊢
    clear hk4
    go_wp2
    go_ret2
    exact ⟨fun _ => ⟨_, _, _, rfl, O2.it⟩, (fun h => by rw [HO.it] at h; cases h), B2.it⟩
set_option maxHeartbeats 4000000 in
theorem same_same (A B : Option Addr) (n c d : Nat) (l : List Pr) (w : World) (S T : Nat → Prop) (h1 : RP w S A n l) (h2 : RP w T B n l) :
    Calls Try.prog 37 #[.slice A n c, .slice B n d] w fun e w' => e = .returned (.bool true) ∧ Below w.heap.size w w' := by
  have hbd := h1.bd
  have HL := Kp.mk h1.len
  have H1 := Kp.mk h1
  have H2 := Kp.mk h2
  clear h1 h2
  have hne : ((n : Int) != (n : Int)) = false := by simp
  go_enter Try.func37, Try.ntmps37
  go_wp2
  go_loopw [13] (fun i wr => ∃ k : Nat, k ≤ n ∧ i = .int .i64 k ∧ Kp (Below w.heap.size w wr)) (fun i _ => n - (intOf i).toNat)
  case atStart => exact ⟨0, by omega, rfl, ⟨Below.refl _ _⟩⟩
  case round =>
    obtain ⟨k, hk, rfl, HB⟩ := hrel
    by_cases hkn : k < n
    · obtain ⟨x, hx⟩ : ∃ x, l[k]? = some x := ⟨_, List.getElem?_eq_getElem (by rw [HL.it]; exact hkn)⟩
      obtain ⟨b1, o1, hA, _, l1, f1, g1⟩ := (H1.it.below HB.it).get hx
      obtain ⟨b2, o2, hB, _, l2, f2, g2⟩ := (H2.it.below HB.it).get hx
      cases hA
      cases hB
      have hx1 : (x.1.toList == x.1.toList) = true := by simp
      have hx2 : (x.2.toList == x.2.toList) = true := by simp
      have hd : decide ((k : Int) < (n : Int)) = true := by simp; omega
      clear hx
      go_wp2
      go_quiet (fail)
      go_wp2
      go_roundw
      case rel => exact ⟨k + 1, by omega, by go_num, ⟨below_drewN HB.it _⟩⟩
      case measure => simp [intOf]; omega
    · obtain rfl : k = n := by omega
      go_wp2
      go_ret
      exact ⟨rfl, HB.it⟩
variable {H : Type} {enc : TypeId × Value → H} {W : World}
set_option maxRecDepth 100000 in
theorem ints_open {base : Nat} {v : Value} {d : DataW H} {p : List MemPlace} (hv : Value.okWide Try.prog W .any base 62 v) (h : DataW.Trod enc Try.prog W 0 (fun _ => true) true 62 v d p) (hz : ∀ x ∈ DataW.weights Try.prog 62 d, x ≤ reachBytes) :
    ∃ A n c xs, v = .slice A n c ∧ Rd W A n xs ∧ (A = none → c = 0) ∧ n ≤ c := by
  obtain ⟨A0, n0, c0, rfl⟩ := okWide_slice Try.underlying62 hv
  obtain ⟨fuel, hf⟩ := h
  rcases open_ints Try.underlying62 Try.underlying3 (by kernel_rfl) hf with ⟨e, _⟩ | ⟨a, l, c, zs, e, _, hl, hm, hzs, hx, hcell, hwf⟩
  · simp [Value.cells] at e
    obtain ⟨rfl, rfl, rfl⟩ := e
    exact ⟨none, 0, 0, [], rfl, ⟨rfl, by decide, fun h => absurd h (by decide)⟩, fun _ => rfl, Nat.le_refl _⟩
  · simp [Value.cells] at e
    obtain ⟨rfl, rfl, rfl⟩ := e
    simp only [Prod.mk.injEq] at hx
    simp only [if_true] at hzs
    have hb : c0 * 8 ≤ 140737488351232 := by
      have hw := hz ((n0 + (c0 - n0)) * 8)
      rw [hx.1] at hw
      have := hw (by
        simp only [DataW.weights, Try.underlying62, List.mem_cons]
        left
        rw [show Try.prog.bytesOf 3 = 8 by kernel_rfl]
        simp [lits]
        omega)
      unfold reachBytes at this
      omega
    refine ⟨some a, n0, c0, zs.take n0, rfl, ⟨by simp; omega, by omega, fun h0 => ?_⟩, (fun h => by cases h), hl⟩
    obtain ⟨b, off, spot⟩ := a
    have h1 := hcell 0 (by omega)
    have hspot : spot = none := by simpa [Addr.add] using World.cell?_spot h1
    subst hspot
    refine ⟨b, off, rfl, World.block_lt_of_cell? W _ (by simpa [Addr.add] using h1), fun j hj => ?_⟩
    have := hcell j (by omega)
    rw [add_plain] at this
    rw [this]
    congr 2
    unfold rd
    rw [List.getD_eq_getElem?_getD, List.getD_eq_getElem?_getD, List.getElem?_take, if_pos hj]
end Go.Proofs.Ytcmkjoepndbicaa
