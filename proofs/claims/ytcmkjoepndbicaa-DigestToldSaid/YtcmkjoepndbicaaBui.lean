/-
  build: the tree of some pairs.
-/
import Derived.Test.YtcmkjoepndbicaaTre
namespace Go.Proofs.Ytcmkjoepndbicaa
open Go Go.RowKit

/-- What build does, f times deep yet. -/
def BuildOk (ka kb : BitVec 64) (f : Nat) : Prop := ∀ (S : Nat → Prop) (A : Option Addr) (n c : Nat) (l : List Pr) (w : World), RP w S A n l → (∀ b, w.heap.size ≤ b → S b) → n ≤ 1000 → n ≤ c → (∀ p ∈ l, p.1.size + p.2.size ≤ 140737488351232) →
    Calls Try.prog 50 #[.agg #[.int .u64 (ka.toNat : Int), .int .u64 (kb.toNat : Int)], .slice A n c, .int .i64 ((4 - f : Nat) : Int)] w fun e w' => ∃ b, e = .returned (.pointer (some ⟨b, 0, none⟩)) ∧ Tr ka kb S f l w' b ∧ w.heap.size ≤ b ∧ Below w.heap.size w w'
theorem wrap_back (x : BitVec 64) : IntKind.u64.wrap (wrap64 (x.toNat : Int)) = (x.toNat : Int) := by
  have e : ∀ y, wrap64 y = IntKind.i64.wrap y := fun y => by first | rfl | (rw [IntKind.wrap_i64]; rfl) | simp [wrap64, IntKind.wrap_i64]
  rw [e]
  have h := x.isLt
  generalize x.toNat = n at h
  have h' : n < 18446744073709551616 := h
  clear h
  rw [IntKind.wrap_i64, IntKind.wrap_u64, Int.sub_emod, Int.emod_emod, ← Int.sub_emod, Int.add_sub_cancel]
  exact Int.emod_eq_of_lt (by omega) (by omega)
/-- The block of a seed. -/
def Sd (ka kb : BitVec 64) (X : Nat) (w : World) : Prop := w.heap[X]? = some (.cells #[.int .u64 (ka.toNat : Int), .int .u64 (kb.toNat : Int)] 24 (0, 0))
/-- The block of a part under way. -/
def Px (u : BitVec 64) (k p : Value) (X : Nat) (w : World) : Prop := w.heap[X]? = some (.cells #[.int .u64 (u.toNat : Int), k, p] 111 (0, 0))
theorem Px.opens {u : BitVec 64} {k p : Value} {X : Nat} {w : World} (h : Px u k p X w) :
    w.cell? ⟨X, 0, none⟩ = some (.int .u64 (u.toNat : Int)) ∧ w.cell? ⟨X, 1, none⟩ = some k ∧ w.cell? ⟨X, 2, none⟩ = some p ∧ w.frozen? ⟨X, 0, none⟩ = false ∧ w.frozen? ⟨X, 1, none⟩ = false ∧ w.frozen? ⟨X, 2, none⟩ = false ∧ X < w.heap.size :=
  ⟨blk_cell h rfl, blk_cell h rfl, blk_cell h rfl, blk_free h, blk_free h, blk_free h, (Array.getElem?_eq_some_iff.1 h).1⟩
theorem Px.set0 {u : BitVec 64} {k p : Value} {X : Nat} {w : World} (h : Px u k p X w) (v : BitVec 64) : Px v k p X (w.setCell ⟨X, 0, none⟩ (.int .u64 (v.toNat : Int))) := blk_set _ h
theorem Px.set1 {u : BitVec 64} {k p : Value} {X : Nat} {w : World} (h : Px u k p X w) (v : Value) : Px u v p X (w.setCell ⟨X, 1, none⟩ v) := blk_set _ h
theorem Px.set2 {u : BitVec 64} {k p : Value} {X : Nat} {w : World} (h : Px u k p X w) (v : Value) : Px u k v X (w.setCell ⟨X, 2, none⟩ v) := blk_set _ h
theorem Px.below {u : BitVec 64} {k p : Value} {X : Nat} {w w' : World} (h : Px u k p X w) (hb : Below w.heap.size w w') : Px u k p X w' := (hb.block _ (Array.getElem?_eq_some_iff.1 h).1).trans h
theorem Sd.opens {ka kb : BitVec 64} {X : Nat} {w : World} (h : Sd ka kb X w) : w.cell? ⟨X, 0, none⟩ = some (.int .u64 (ka.toNat : Int)) ∧ w.cell? ⟨X, 1, none⟩ = some (.int .u64 (kb.toNat : Int)) ∧ X < w.heap.size :=
  ⟨blk_cell h rfl, blk_cell h rfl, (Array.getElem?_eq_some_iff.1 h).1⟩
theorem Sd.below {ka kb : BitVec 64} {X : Nat} {w w' : World} (h : Sd ka kb X w) (hb : Below w.heap.size w w') : Sd ka kb X w' := (hb.block _ (Array.getElem?_eq_some_iff.1 h).1).trans h
theorem Sd.set {ka kb : BitVec 64} {X Y o : Nat} {w : World} (h : Sd ka kb X w) (v : Value) (hne : X ≠ Y) : Sd ka kb X (w.setCell ⟨Y, o, none⟩ v) := (other_block _ _ _ hne).trans h

set_option maxRecDepth 100000 in
set_option maxHeartbeats 8000000 in
theorem build_zero (ka kb : BitVec 64) : BuildOk ka kb 0 := by
  intro S A n c l w h hbase hn hnc hs
  have HNC := Kp.mk hnc
  clear hnc
  have HL := Kp.mk h.len
  have H := Kp.mk h
  have HS := Kp.mk hs
  have HBs := Kp.mk hbase
  clear h hs hbase
  go_enter Try.func50, Try.ntmps50
  go_upto_region 2 with fail
  refine wp_on (fun wx => wx.heap.size = w.heap.size + 2 ∧ Sd ka kb w.heap.size wx ∧ Px 0 (.slice none 0 0) (.slice none 0 0) (w.heap.size + 1) wx ∧ Below w.heap.size w wx) ⟨by simp, blk_old _ (blk_new _ _), blk_new1 _ _ _, ((Below.refl _ _).alloc (Nat.le_refl _) _).alloc (by simp) _⟩ (fun w1 hx => ?_)
  obtain ⟨hsz, hsd, hpx, hb⟩ := hx
  have SD := Kp.mk hsd
  have PX := Kp.mk hpx
  have B1 := Kp.mk hb
  have SZ := Kp.mk hsz
  clear hsd hpx hb hsz
  rcases Nat.eq_zero_or_pos n with h0 | h0
  · subst h0
    have hq : (((0 : Nat) : Int) == 0) = true := by decide
    have HE : Kp (l = []) := ⟨List.eq_nil_of_length_eq_zero HL.it⟩
    go_wp2
    go_ret
    exact ⟨_, rfl, by rw [HE.it]; exact tr_nil ka kb 0 S (HBs.it _ (by omega)) PX.it, by omega, B1.it⟩
  · have hq : ((n : Int) == 0) = false := by rw [beq_eq_false_iff_ne]; omega
    obtain ⟨x0, x1, x2, y0, y1, y2, hlt⟩ := PX.it.opens
    obtain ⟨X, hX⟩ : ∃ X, X = w.heap.size := ⟨_, rfl⟩
    rw [← hX] at SD PX HBs SZ x0 x1 x2 y0 y1 y2 hlt B1 ⊢
    have HX := Kp.mk hX
    clear hX
    go_upto_region 6 with fail
    refine wp_on (fun wx => Sd ka kb X wx ∧ Px 0 (.slice none 0 0) (.slice A n c) (X + 1) wx ∧ Below X w wx) ⟨SD.it.set _ (by omega), PX.it.set2 _, B1.it.setCell (by show X ≤ X + 1; omega) _⟩ (fun w2 hx => ?_)
    obtain ⟨hsd, hpx, hb⟩ := hx
    have SD2 := Kp.mk hsd
    have PX2 := Kp.mk hpx
    have B2 := Kp.mk hb
    clear hsd hpx hb x0 x1 x2 y0 y1 y2 hlt SD PX B1
    go_wp2_with fail
    go_at_call 76
    refine (number_any none 0 0 [] n w2 ⟨rfl, by decide, fun h => absurd h (by decide)⟩ (fun _ => rfl) (by omega) (by omega)).mono ?_
    rintro e w3 ⟨v3, rfl, ho3, hb3⟩
    rw [List.nil_append] at ho3
    have HNB : Kp ((numB n).length ≤ 9) := ⟨numB_len n (by omega)⟩
    obtain ⟨A3, c3, rfl, hn3, hc3, hr3⟩ := ho3.form (by have := HNB.it; omega)
    have SD3 := Kp.mk (SD2.it.below hb3)
    have PX3 := Kp.mk (PX2.it.below hb3)
    have B3 := Kp.mk (B2.it.trans (hb3.mono (by have := B2.it.size; have := HX.it; omega)))
    have R3 := Kp.mk hr3
    have N3 := Kp.mk hn3
    obtain ⟨m3, hm3⟩ : ∃ m, m = (numB n).length := ⟨_, rfl⟩
    rw [← hm3] at R3 hc3 ⊢
    have M3 : m3 ≤ 9 := by rw [hm3]; exact HNB.it
    clear ho3 hb3 hr3 hn3 SD2 PX2 B2 hm3
    go_wp2
    go_loopw [8, 36] (fun b i wr => ∃ (k m : Nat) (A4 : Option Addr) (c4 : Nat), k ≤ n ∧ i = .int .i64 k ∧ b = .slice A4 m c4 ∧ m ≤ 9 + 8 * k ∧ m ≤ c4 ∧ Kp (A4 = none → c4 = 0) ∧ Kp (Rb wr A4 m (numB n ++ (l.take k).flatMap fun p => sgB (pairU ka kb p).toNat)) ∧ Kp (Sd ka kb X wr) ∧ Kp (Px 0 (.slice none 0 0) (.slice A n c) (X + 1) wr) ∧ Kp (Below X w wr)) (fun _ i _ => n - (intOf i).toNat)
    case atStart => exact ⟨0, m3, A3, c3, by omega, rfl, rfl, by omega, hc3, N3, ⟨by simpa using R3.it⟩, SD3, PX3, B3⟩
    case round =>
      clear SD3 PX3 B3 R3 N3 hc3
      obtain ⟨k, m, A4, c4, hk, rfl, rfl, hm, hmc, HN, HR, SD, PX, HB⟩ := hrel
      have hsdo := SD.it.opens
      obtain ⟨s0, s1, slt⟩ := hsdo
      by_cases hkn : k < n
      · have hd : decide ((k : Int) < (n : Int)) = true := by simp; omega
        obtain ⟨x, hx⟩ : ∃ x, l[k]? = some x := ⟨_, List.getElem?_eq_getElem (by rw [HL.it]; exact hkn)⟩
        obtain ⟨b1, o1, hA, hb1, hl1, f0, f1⟩ := (H.it.same (Same.of_below (HX.it ▸ HB.it) S)).get hx
        cases hA
        have HXX : Kp (l.take (k + 1) = l.take k ++ [x]) := ⟨by rw [List.take_add_one, hx]; rfl⟩
        have HSX := Kp.mk (HS.it x (List.mem_of_getElem? hx))
        clear hx
        go_upto_region 10 with fail
        refine wp_on (fun wz => wz.heap[wr.heap.size]? = some (.cells #[.string x.1, .string x.2] 43 (0, 0)) ∧ Below wr.heap.size wr wz) ⟨blk_new _ _, (Below.refl wr.heap.size wr).alloc (Nat.le_refl _) _⟩ (fun w4 h4 => ?_)
        obtain ⟨h4, hb4⟩ := h4
        have E4 := Kp.mk h4
        have B4 := Kp.mk hb4
        have SD4 := Kp.mk (SD.it.below hb4)
        clear h4 hb4 f0 f1 s0 s1
        have g0 : w4.cell? ⟨wr.heap.size, 0, none⟩ = some (.string x.1) := blk_cell E4.it rfl
        have g1 : w4.cell? ⟨wr.heap.size, 1, none⟩ = some (.string x.2) := blk_cell E4.it rfl
        have hlt4 := (Array.getElem?_eq_some_iff.1 E4.it).1
        obtain ⟨s0, s1, slt4⟩ := SD4.it.opens
        go_wp2_with fail
        go_at_call 23
        refine (pair_any ka kb x w4 HSX.it).mono ?_
        rintro e w5 ⟨rfl, hb5⟩
        have B5 := Kp.mk (B4.it.trans (hb5.mono B4.it.size))
        clear hb5 g0 g1 s0 s1 hlt4 slt4
        obtain ⟨U, hU⟩ : ∃ U, U = pairU ka kb x := ⟨_, rfl⟩
        rw [← hU]
        have HU := Kp.mk hU
        have hu := wrap_back U
        clear hU
        go_wp2_with fail
        obtain ⟨SS, hSS⟩ : ∃ S, S = wrap64 (U.toNat : Int) := ⟨_, rfl⟩
        rw [← hSS] at hu ⊢
        have HUU := Kp.mk hu
        clear hSS hu
        go_at_call 77
        refine (signed_any A4 m c4 _ SS U.toNat w5 (HR.it.below B5.it) HN.it HUU.it (by omega)).mono ?_
        rintro e w6 ⟨v6, rfl, ho6, hb6⟩
        have HLL : Kp ((numB n ++ (l.take k).flatMap fun p => sgB (pairU ka kb p).toNat).length = m) := ⟨HR.it.len⟩
        obtain ⟨A6, c6, rfl, hn6, hc6, hr6⟩ := ho6.form (by rw [List.length_append, HLL.it, sgB_len]; omega)
        rw [List.length_append, HLL.it, sgB_len] at hc6 hr6 ⊢
        have R6 : Kp (Rb w6 A6 (m + 8) (numB n ++ (l.take (k + 1)).flatMap fun p => sgB (pairU ka kb p).toNat)) := ⟨by
          rw [HXX.it, List.flatMap_append, ← List.append_assoc]
          have e : ([x].flatMap fun p => sgB (pairU ka kb p).toNat) = sgB U.toNat := by simp [HU.it]
          rw [e]
          exact hr6⟩
        have N6 := Kp.mk hn6
        have B6 := Kp.mk (B5.it.trans (hb6.mono B5.it.size))
        have SD6 := Kp.mk (SD.it.below B6.it)
        have PX6 := Kp.mk (PX.it.below B6.it)
        have HB6 := Kp.mk (HB.it.trans (B6.it.mono (by have := HB.it.size; have := HX.it; omega)))
        clear ho6 hb6 hn6 hr6
        go_wp2
        go_roundw
        case rel => exact ⟨k + 1, m + 8, A6, c6, by omega, by go_num, rfl, by omega, hc6, N6, R6, SD6, PX6, HB6⟩
        case measure => simp [intOf]; omega
      · obtain rfl : k = n := by omega
        have hd : decide ((k : Int) < (k : Int)) = false := by simp
        obtain ⟨x0, x1, x2, y0, y1, y2, hlt⟩ := PX.it.opens
        clear x0 x1 x2 y0 y1 y2 hlt
        go_wp2_with fail
        go_at_call 19
        refine (sum_any A4 m c4 _ ka kb wr HR.it hmc).mono ?_
        rintro e w6 ⟨rfl, hb6⟩
        have PX6 := Kp.mk (PX.it.below hb6)
        have HB6 := Kp.mk (HB.it.trans (hb6.mono (by have := HB.it.size; have := HX.it; omega)))
        obtain ⟨x0, x1, x2, y0, y1, y2, hlt⟩ := PX6.it.opens
        obtain ⟨U, hU⟩ : ∃ U, U = sumU ka kb (numB k ++ (l.take k).flatMap fun p => sgB (pairU ka kb p).toNat) := ⟨_, rfl⟩
        rw [← hU]
        have HU : Kp (digU ka kb 0 l = U) := ⟨by
          rw [hU, List.take_of_length_le (by rw [HL.it]; omega)]
          unfold digU
          rw [if_neg (by intro h; have := HL.it; rw [h] at this; simp at this; omega), HL.it]⟩
        clear hU hb6
        go_wp2
        go_ret
        refine ⟨_, rfl, ⟨HBs.it _ (by omega), A, k, c, ?_, HNC.it, ?_⟩, by have := HX.it; omega, HX.it ▸ HB6.it.setCell (by show X ≤ X + 1; omega) _⟩
        · rw [HU.it]
          exact PX6.it.set0 U
        · exact H.it.same ⟨by rw [size_set]; have := HB6.it.size; exact this, fun b hb hl => (other_block _ _ _ (by show b ≠ X + 1; have := HX.it; omega)).trans (HB6.it.block b (by have := HX.it; omega))⟩
end Go.Proofs.Ytcmkjoepndbicaa
