/-
  Paths: right of the reference, find of the program.
-/
import Derived.Test.YtcmkjoepndbicaaPrq
namespace Go.Proofs.Ytcmkjoepndbicaa
open Go Go.RowKit

def okD (d : Int) : Bool := decide (0 ≤ d) && decide (d < 16)
/-- Is a path one of at most so many digits? -/
def okP (path : List Int) (most : Nat) : Bool := decide (path.length ≤ most) && path.all okD
theorem okP_take {path : List Int} {k : Nat} (hk : k < path.length) : (path.take (k + 1)).all okD = ((path.take k).all okD && okD (rd path k)) := by
  rw [List.take_succ_eq_append_getElem hk, List.all_append, ← rd_lt hk]
  simp
set_option maxRecDepth 100000 in
set_option maxHeartbeats 4000000 in
theorem right_any (A : Option Addr) (m c : Nat) (path : List Int) (most : Nat) (w : World) (P : Rd w A m path) :
    Calls Try.prog 63 #[.slice A m c, .int .i64 (most : Int)] w fun e w' => e = .returned (.bool (okP path most)) ∧ Below w.heap.size w w' := by
  have hbd := P.bd
  have HL := Kp.mk P.len
  have HP := Kp.mk P
  clear P
  obtain ⟨b0, hb0⟩ : ∃ b0 : Bool, b0 = decide (m ≤ most) := ⟨_, rfl⟩
  have hq : decide ((m : Int) ≤ (most : Int)) = b0 := by rw [hb0]; simp
  have HB0 := Kp.mk hb0
  clear hb0
  go_enter Try.func63, Try.ntmps63
  go_wp2
  go_loopw [5, 14] (fun o i wr => ∃ (k : Nat) (b : Bool), k ≤ m ∧ i = .int .i64 k ∧ o = .bool b ∧ Kp (b = (b0 && (path.take k).all okD)) ∧ Kp (Below w.heap.size w wr)) (fun _ i _ => m - (intOf i).toNat)
  case atStart => exact ⟨0, b0, by omega, rfl, by rw [HB0.it], ⟨by simp⟩, ⟨Below.refl _ _⟩⟩
  case round =>
    obtain ⟨k, b, hk, rfl, rfl, HBo, HB⟩ := hrel
    by_cases hkm : k < m
    · have hd : decide ((k : Int) < (m : Int)) = true := by simp; omega
      obtain ⟨bp, op, hAp, hlp, hcp⟩ := (HP.it.below HB.it).get hkm
      subst hAp
      have HON := Kp.mk (okP_take (path := path) (k := k) (by rw [HL.it]; exact hkm))
      obtain ⟨y, hy⟩ : ∃ y, y = rd path k := ⟨_, rfl⟩
      rw [← hy] at hcp HON
      clear hy
      cases b with
      | false =>
        have HE : Kp (false = (b0 && (path.take (k + 1)).all okD)) := ⟨by rw [HON.it, ← Bool.and_assoc, ← HBo.it]; rfl⟩
        go_wp2
        go_roundw
        case rel => exact ⟨k + 1, false, by omega, by go_num, rfl, HE, HB⟩
        case measure => simp [intOf]; omega
      | true =>
        have HE : Kp (okD y = (b0 && (path.take (k + 1)).all okD)) := ⟨by rw [HON.it, ← Bool.and_assoc, ← HBo.it]; rfl⟩
        by_cases h0 : 0 ≤ y
        · by_cases h1 : y < 16
          · have hd1 : decide (0 ≤ y) = true := by simpa using h0
            have hd2 : decide (y < 16) = true := by simpa using h1
            have HF : Kp (true = (b0 && (path.take (k + 1)).all okD)) := ⟨by rw [← HE.it]; unfold okD; rw [hd1, hd2]; rfl⟩
            go_wp2
            go_roundw
            case rel => exact ⟨k + 1, true, by omega, by go_num, rfl, HF, HB⟩
            case measure => simp [intOf]; omega
          · have hd1 : decide (0 ≤ y) = true := by simpa using h0
            have hd2 : decide (y < 16) = false := by simpa using h1
            have HF : Kp (false = (b0 && (path.take (k + 1)).all okD)) := ⟨by rw [← HE.it]; unfold okD; rw [hd1, hd2]; rfl⟩
            go_wp2
            go_roundw
            case rel => exact ⟨k + 1, false, by omega, by go_num, rfl, HF, HB⟩
            case measure => simp [intOf]; omega
        · have hd1 : decide (0 ≤ y) = false := by simpa using h0
          have HF : Kp (false = (b0 && (path.take (k + 1)).all okD)) := ⟨by rw [← HE.it]; unfold okD; rw [hd1]; rfl⟩
          go_wp2
          go_roundw
          case rel => exact ⟨k + 1, false, by omega, by go_num, rfl, HF, HB⟩
          case measure => simp [intOf]; omega
    · obtain rfl : k = m := by omega
      have hd : decide ((k : Int) < (k : Int)) = false := by simp
      rw [List.take_of_length_le (by rw [HL.it]; omega)] at HBo
      have HE : Kp (b = okP path most) := ⟨by unfold okP; rw [HL.it, HBo.it, HB0.it]⟩
      clear HBo
      go_wp2
      go_ret
      exact ⟨by rw [← HE.it]; rfl, HB.it⟩
/-- What find gives. -/
def FindP (ka kb : BitVec 64) (S : Nat → Prop) (ok : Bool) (f : Nat) (L : List Pr) (w : World) (e : Ending) (w' : World) : Prop :=
  (ok = true → ∃ px, e = .returned (.tuple #[.pointer (some ⟨px, 0, none⟩), .int .i64 0]) ∧ Tr ka kb S f L w' px) ∧ (ok = false → e = .returned (.tuple #[.pointer none, .int .i64 1])) ∧ Below w.heap.size w w'
theorem tr_zero_or {ka kb : BitVec 64} {S : Nat → Prop} {f : Nat} {L : List Pr} {w : World} {b : Nat} (h : Tr ka kb S (f + 1) L w b) :
    ∃ A n c, w.heap[b]? = some (.cells #[.int .u64 ((digU ka kb (f + 1) L).toNat : Int), .slice A n c, .slice none 0 0] 111 (0, 0)) ∧
      ((L = [] ∧ n = 0) ∨ (n = 16 ∧ ∃ g, A = some ⟨g, 0, none⟩ ∧ g < w.heap.size ∧ ∀ i, i < 16 → ∃ k, w.cell? ⟨g, i, none⟩ = some (.pointer (some ⟨k, 0, none⟩)) ∧ Tr ka kb S f (kid ka kb (3 - f) i L) w k)) := by
  obtain ⟨_, A, n, c, h, hr⟩ := tr_succ h
  rcases hr with ⟨h1, h2⟩ | ⟨_, h2, g, e, _, hl, hk⟩
  · exact ⟨A, n, c, h, .inl ⟨h1, h2⟩⟩
  · exact ⟨A, n, c, h, .inr ⟨h2, g, e, hl, hk⟩⟩
set_option maxRecDepth 100000 in
set_option maxHeartbeats 8000000 in
theorem find_any (ka kb : BitVec 64) (S : Nat → Prop) (l : List Pr) (t : Nat) (A : Option Addr) (m c : Nat) (path : List Int) (w : World) (T : TreeS ka kb S l t w) (P : Rd w A m path) (hS : ∀ b, w.heap.size ≤ b → S b) :
    Calls Try.prog 62 #[.pointer (some ⟨t, 0, none⟩), .slice A m c] w fun e w' => FindP ka kb S (okP path 4) (4 - m) (inP ka kb path l) w e w' := by
  have hbd := P.bd
  have HL := Kp.mk P.len
  have HP := Kp.mk P
  have HSS := Kp.mk hS
  obtain ⟨_, r, ht, hr⟩ := T
  have z2 : w.cell? ⟨t, 2, none⟩ = some (.pointer (some ⟨r, 0, none⟩)) := blk_cell ht rfl
  have hlt := (Array.getElem?_eq_some_iff.1 ht).1
  have TR := Kp.mk hr
  clear P hS ht hr
  by_cases hm : 4 < m
  · have hd : decide ((4 : Int) < (m : Int)) = true := by simp; omega
    have HO : Kp (okP path 4 = false) := ⟨by unfold okP; rw [HL.it, decide_eq_false (by omega)]; rfl⟩
    go_enter Try.func62, Try.ntmps62
    go_wp2
    go_ret2
    exact ⟨(fun h => by rw [HO.it] at h; cases h), fun _ => rfl, Below.refl _ _⟩
  · have hd : decide ((4 : Int) < (m : Int)) = false := by rw [decide_eq_false_iff_not]; omega
    go_enter Try.func62, Try.ntmps62
    go_wp2
    go_loopw [6, 29] (fun x i wr => ∃ (k px : Nat), k ≤ m ∧ i = .int .i64 k ∧ x = .pointer (some ⟨px, 0, none⟩) ∧ Kp ((path.take k).all okD = true) ∧ Kp (Tr ka kb S (4 - k) (inP ka kb (path.take k) l) wr px) ∧ Kp (Below w.heap.size w wr)) (fun _ i _ => m - (intOf i).toNat)
    case atStart => exact ⟨0, r, by omega, rfl, rfl, ⟨rfl⟩, ⟨by rw [List.take_zero, inP_nil]; exact TR.it⟩, ⟨Below.refl _ _⟩⟩
    case round =>
      clear z2 hlt
      obtain ⟨k, px, hk, rfl, rfl, HBo, TX, HB⟩ := hrel
      by_cases hkm : k < m
      · have hd : decide ((k : Int) < (m : Int)) = true := by simp; omega
        obtain ⟨bp, op, hAp, hlp, hcp⟩ := (HP.it.below HB.it).get hkm
        subst hAp
        have hkl : k < path.length := by rw [HL.it]; exact hkm
        have HON := Kp.mk (okP_take (path := path) (k := k) hkl)
        have HTK : Kp (path.take (k + 1) = path.take k ++ [rd path k]) := ⟨by rw [List.take_succ_eq_append_getElem hkl, ← rd_lt hkl]⟩
        have HKL : Kp ((path.take k).length = k) := ⟨by rw [List.length_take]; omega⟩
        have HBAD : Kp (okD (rd path k) = false → okP path 4 = false) := ⟨fun h => by
          unfold okP
          have : path.all okD = false := by
            rw [List.all_eq_false]
            exact ⟨path[k], List.getElem_mem hkl, by rw [← rd_lt hkl, h]; simp⟩
          rw [this, Bool.and_false]⟩
        obtain ⟨y, hy⟩ : ∃ y, y = rd path k := ⟨_, rfl⟩
        rw [← hy] at hcp HON HTK HBAD
        clear hy hkl
        by_cases h0 : y < 0
        · have hd1 : decide (y < 0) = true := by simpa using h0
          have HF : Kp (okP path 4 = false) := ⟨HBAD.it (by unfold okD; rw [decide_eq_false (by omega)]; rfl)⟩
          go_wp2
          go_ret2
          exact ⟨(fun h => by rw [HF.it] at h; cases h), fun _ => rfl, HB.it⟩
        · have hd1 : decide (y < 0) = false := by simpa using h0
          by_cases h1 : 16 ≤ y
          · have hd2 : decide (16 ≤ y) = true := by simpa using h1
            have HF : Kp (okP path 4 = false) := ⟨HBAD.it (by unfold okD; rw [decide_eq_false (show ¬ y < 16 by omega), Bool.and_false])⟩
            go_wp2
            go_ret2
            exact ⟨(fun h => by rw [HF.it] at h; cases h), fun _ => rfl, HB.it⟩
          · have hd2 : decide (16 ≤ y) = false := by simpa using h1
            obtain ⟨d, rfl⟩ : ∃ d : Nat, y = (d : Int) := ⟨y.toNat, by omega⟩
            have hd16 : d < 16 := by omega
            have hdz : (d : Int) < 16 := by omega
            have HO2 : Kp ((path.take (k + 1)).all okD = true) := ⟨by rw [HON.it, HBo.it]; unfold okD; rw [decide_eq_true (show (0 : Int) ≤ (d : Int) by omega), decide_eq_true hdz]; rfl⟩
            obtain ⟨f, hf⟩ : ∃ f, 4 - k = f + 1 := ⟨3 - k, by omega⟩
            rw [hf] at TX
            have HF2 : Kp (4 - (k + 1) = f) := ⟨by omega⟩
            have HKD : Kp (inP ka kb (path.take (k + 1)) l = kid ka kb (3 - f) d (inP ka kb (path.take k) l)) := ⟨by rw [HTK.it, inP_snoc, HKL.it, show 3 - f = k by omega]⟩
            clear hf h0 h1 hd1 hd2 HBAD
            obtain ⟨AP, nP, cP, hp, hcase⟩ := tr_zero_or TX.it
            have p1 : wr.cell? ⟨px, 1, none⟩ = some (.slice AP nP cP) := blk_cell hp rfl
            have hpl := (Array.getElem?_eq_some_iff.1 hp).1
            rcases hcase with ⟨hE, rfl⟩ | ⟨rfl, g, rfl, hgl, hk⟩
            · have HE := Kp.mk hE
              have hd7 : decide ((0 : Int) < ((0 : Nat) : Int)) = false := by decide
              have HNB : Kp (Below w.heap.size w (wr.alloc (.cells #[.int .u64 0, .slice none 0 0, .slice none 0 0] 111))) := ⟨HB.it.alloc HB.it.size _⟩
              have HNT : Kp (Tr ka kb S f (inP ka kb (path.take (k + 1)) l) (wr.alloc (.cells #[.int .u64 0, .slice none 0 0, .slice none 0 0] 111)) wr.heap.size) := ⟨by
                rw [HKD.it, HE.it]
                exact tr_nil ka kb f S (HSS.it _ HB.it.size) (blk_new _ _)⟩
              clear hE hp
              go_wp2
              go_roundw
              case rel => exact ⟨k + 1, wr.heap.size, by omega, by go_num, rfl, HO2, ⟨by rw [HF2.it]; exact HNT.it⟩, HNB⟩
              case measure => simp [intOf]; omega
            · obtain ⟨q, hq, hqt⟩ := hk d hd16
              have hd7 : decide ((0 : Int) < ((16 : Nat) : Int)) = true := by decide
              have HNT : Kp (Tr ka kb S f (inP ka kb (path.take (k + 1)) l) wr q) := ⟨by rw [HKD.it]; exact hqt⟩
              clear hk hqt hp
              go_wp2
              go_roundw
              case rel => exact ⟨k + 1, q, by omega, by go_num, rfl, HO2, ⟨by rw [HF2.it]; exact HNT.it⟩, HB⟩
              case measure => simp [intOf]; omega
      · obtain rfl : k = m := by omega
        have hd : decide ((k : Int) < (k : Int)) = false := by simp
        rw [List.take_of_length_le (by rw [HL.it]; omega)] at HBo TX
        have HO : Kp (okP path 4 = true) := ⟨by unfold okP; rw [HL.it, HBo.it, decide_eq_true (by omega)]; rfl⟩
        go_wp2
        go_ret2
        exact ⟨fun _ => ⟨px, rfl, TX.it⟩, (fun h => by rw [HO.it] at h; cases h), HB.it⟩
end Go.Proofs.Ytcmkjoepndbicaa
