/-
  Are two rows of groups the same: Same, sameList, where they are.
-/
import Derived.Test.YtemnhmnompehoaaMac
namespace Go.Proofs.Ytemnhmnompehoaa
open Go Go.RowKit
attribute [local go_sem ↓] Go.wp_at_zero Go.wp_at_succ

set_option maxHeartbeats 1000000 in
theorem samel_any (A B : Option Addr) (n c d : Nat) (xs : List Int) (w : World) (h1 : Rd w A n xs) (h2 : Rd w B n xs) :
    Calls Try.prog 68 #[.slice A n c, .slice B n d] w fun e w' => e = .returned (.bool true) ∧ Below w.heap.size w w' := by
  have hb1 := h1.bd
  have H1 := Kp.mk h1
  have H2 := Kp.mk h2
  clear h1 h2
  have hne : ((n : Int) != (n : Int)) = false := by simp
  go_enter Try.func68, Try.ntmps68
  go_wp2
  go_loopw [13] (fun i wr => ∃ k : Nat, k ≤ n ∧ i = .int .i64 k ∧ Kp (∃ q, wr = w.drewN q)) (fun i _ => n - (intOf i).toNat)
  case atStart => exact ⟨0, by omega, rfl, ⟨0, rfl⟩⟩
  case round =>
    obtain ⟨k, hk, rfl, hW⟩ := hrel
    by_cases hkn : k < n
    · obtain ⟨b1, o1, hA, _, e1⟩ := H1.it.get hkn
      obtain ⟨b2, o2, hB, _, e2⟩ := H2.it.get hkn
      cases hA
      cases hB
      have f1 : wr.cell? ⟨b1, o1 + k, none⟩ = some (.int .i64 (rd xs k)) := by obtain ⟨q, rfl⟩ := hW.it; exact e1
      have f2 : wr.cell? ⟨b2, o2 + k, none⟩ = some (.int .i64 (rd xs k)) := by obtain ⟨q, rfl⟩ := hW.it; exact e2
      have hd : decide ((k : Int) < (n : Int)) = true := by simp; omega
      have hx' : (rd xs k != rd xs k) = false := by simp
      clear e1 e2
      go_wp2_with fail
      go_quiet (fail)
      go_wp2
      go_roundw
      case rel => exact ⟨k + 1, by omega, by go_num, ⟨by obtain ⟨q, rfl⟩ := hW.it; exact ⟨_, World.drewN_drewN ..⟩⟩⟩
      case measure => simp [intOf]; omega
    · go_wp2
      go_ret
      exact ⟨rfl, by obtain ⟨q, hq⟩ := hW.it; rw [hq]; exact below_drewN (Below.refl _ _) q⟩

set_option maxRecDepth 100000 in
set_option maxHeartbeats 8000000 in
theorem same_any (A B : Option Addr) (n c d : Nat) (l m : List Gv) (w : World) (h1 : RG w A n l) (h2 : RG w B n m) (g1 : ∀ x ∈ l, GOk w x) (g2 : ∀ x ∈ m, GOk w x) (he : l.map Gv.x = m.map Gv.x) :
    Calls Try.prog 34 #[.slice A n c, .slice B n d] w fun e w' => e = .returned (.bool true) ∧ Below w.heap.size w w' := by
  have hbd := h1.bd
  have H1 := Kp.mk h1
  have H2 := Kp.mk h2
  have G1 := Kp.mk g1
  have G2 := Kp.mk g2
  have HE := Kp.mk he
  have hne : ((n : Int) != (n : Int)) = false := by simp
  clear h1 h2 g1 g2 he
  go_enter Try.func34, Try.ntmps34
  go_wp2
  go_loopw [15] (fun i wr => ∃ k : Nat, k ≤ n ∧ i = .int .i64 k ∧ Kp (Below w.heap.size w wr)) (fun i _ => n - (intOf i).toNat)
  case atStart => exact ⟨0, by omega, rfl, ⟨Below.refl _ _⟩⟩
  case round =>
    obtain ⟨k, hk, rfl, HW⟩ := hrel
    by_cases hkn : k < n
    · obtain ⟨x, hx⟩ : ∃ x, l[k]? = some x := ⟨_, List.getElem?_eq_getElem (by rw [H1.it.len]; exact hkn)⟩
      obtain ⟨y, hy⟩ : ∃ y, m[k]? = some y := ⟨_, List.getElem?_eq_getElem (by rw [H2.it.len]; exact hkn)⟩
      have hxy : y.x = x.x := by
        have := congrArg (·[k]?) HE.it
        simp [hx, hy] at this
        exact this.symm
      obtain ⟨a, ha, hla, a0, a1, a2, a3, a4, a5, a6⟩ := (H1.it.below HW.it).get hx
      obtain ⟨b, hb, hlb, b0, b1, b2, b3, b4, b5, b6⟩ := (H2.it.below HW.it).get hy
      rw [hxy] at b0 b1 b2 b3 b4 b5 b6
      cases ha
      cases hb
      have K1 := Kp.mk ((G1.it x (List.mem_of_getElem? hx)).below HW.it)
      have K2 := Kp.mk ((G2.it y (List.mem_of_getElem? hy)).below HW.it)
      have HXY := Kp.mk hxy
      have hd : decide ((k : Int) < (n : Int)) = true := by simp; omega
      clear hx hy hxy
      go_wp2_with fail
      rename_i K hK
      go_region
      all_goals (try simp only [Act.put, List.setIfInBounds_toArray, List.set_cons_succ, List.set_cons_zero])
      · obtain ⟨W, hW⟩ : ∃ W, W = ((wr.alloc (.cells #[.string x.x.name, .int .i64 x.x.sub, .int .i64 x.x.term, .int .i64 x.x.next, .slice x.mA x.x.mem.length x.mc, .slice x.oA x.x.own.length x.oc, .slice x.tA x.x.att.length x.tc] 51)).alloc (.cells #[.string x.x.name, .int .i64 x.x.sub, .int .i64 x.x.term, .int .i64 x.x.next, .slice y.mA x.x.mem.length y.mc, .slice y.oA x.x.own.length y.oc, .slice y.tA x.x.att.length y.tc] 51)).drew := ⟨_, rfl⟩
        have BW : Kp (Below wr.heap.size wr W) := ⟨by rw [hW]; exact below_drew (((Below.refl _ wr).alloc (Nat.le_refl _) _).alloc (by simp) _)⟩
        have X1 : Kp (Bx W wr.heap.size x.x.name x.x.sub x.x.term x.x.next (.slice x.mA x.x.mem.length x.mc) (.slice x.oA x.x.own.length x.oc) (.slice x.tA x.x.att.length x.tc)) := ⟨by rw [hW]; exact blk_old _ (blk_new _ _)⟩
        have Y1 : Kp (Bx W (wr.heap.size + 1) x.x.name x.x.sub x.x.term x.x.next (.slice y.mA x.x.mem.length y.mc) (.slice y.oA x.x.own.length y.oc) (.slice y.tA x.x.att.length y.tc)) := ⟨by rw [hW]; exact blk_new1 _ _ _⟩
        have hs1 : wr.heap.size + 2 ≤ W.heap.size := by rw [hW]; simp
        rw [← hW]
        clear hW a0 a1 a2 a3 a4 a5 a6 b0 b1 b2 b3 b4 b5 b6
        obtain ⟨p0, p1, p2, p3, p4, p5, p6, _⟩ := X1.it.cells
        obtain ⟨q0, q1, q2, q3, q4, q5, q6, _⟩ := Y1.it.cells
        go_wp2_with fail
        go_at_call 68
        refine (samel_any x.mA y.mA x.x.mem.length x.mc y.mc x.x.mem W ((K1.it.below BW.it).m) (by rw [← HXY.it]; exact (K2.it.below BW.it).m)).mono ?_
        rintro e W' ⟨rfl, hb⟩
        have X2 := Kp.mk (X1.it.kept hb (by omega))
        have Y2 := Kp.mk (Y1.it.kept hb (by omega))
        have hs2 : wr.heap.size + 2 ≤ W'.heap.size := by have := hb.size; omega
        have BW1 : Kp (Below wr.heap.size wr W') := ⟨BW.it.trans (hb.mono BW.it.size)⟩
        clear BW hb p0 p1 p2 p3 p4 p5 p6 q0 q1 q2 q3 q4 q5 q6
        have BW := BW1
        clear BW1
        obtain ⟨p0, p1, p2, p3, p4, p5, p6, _⟩ := X2.it.cells
        obtain ⟨q0, q1, q2, q3, q4, q5, q6, _⟩ := Y2.it.cells
        go_wp2_with fail
        go_at_call 68
        refine (samel_any x.oA y.oA x.x.own.length x.oc y.oc x.x.own W' ((K1.it.below BW.it).o) (by rw [← HXY.it]; exact (K2.it.below BW.it).o)).mono ?_
        rintro e W'' ⟨rfl, hb⟩
        have X3 := Kp.mk (X2.it.kept hb (by omega))
        have Y3 := Kp.mk (Y2.it.kept hb (by omega))
        have hs3 : wr.heap.size + 2 ≤ W''.heap.size := by have := hb.size; omega
        have BW2 : Kp (Below wr.heap.size wr W'') := ⟨BW.it.trans (hb.mono BW.it.size)⟩
        clear BW hb p0 p1 p2 p3 p4 p5 p6 q0 q1 q2 q3 q4 q5 q6
        have BW := BW2
        clear BW2
        obtain ⟨p0, p1, p2, p3, p4, p5, p6, _⟩ := X3.it.cells
        obtain ⟨q0, q1, q2, q3, q4, q5, q6, _⟩ := Y3.it.cells
        go_wp2_with fail
        go_at_call 68
        refine (samel_any x.tA y.tA x.x.att.length x.tc y.tc x.x.att W'' ((K1.it.below BW.it).t) (by rw [← HXY.it]; exact (K2.it.below BW.it).t)).mono ?_
        rintro e W''' ⟨rfl, hb⟩
        have X4 := Kp.mk (X3.it.kept hb (by omega))
        have Y4 := Kp.mk (Y3.it.kept hb (by omega))
        have hs4 : wr.heap.size + 2 ≤ W'''.heap.size := by have := hb.size; omega
        have BW3 : Kp (Below wr.heap.size wr W''') := ⟨BW.it.trans (hb.mono BW.it.size)⟩
        clear BW hb p0 p1 p2 p3 p4 p5 p6 q0 q1 q2 q3 q4 q5 q6
        have BW := BW3
        clear BW3
        go_wp2
        go_roundw
        case rel => exact ⟨k + 1, by omega, by go_num, ⟨HW.it.trans (BW.it.mono HW.it.size)⟩⟩
        case measure => simp [intOf]; omega
      · obtain ⟨W, hW⟩ : ∃ W, W = ((wr.alloc (.cells #[.string x.x.name, .int .i64 x.x.sub, .int .i64 x.x.term, .int .i64 x.x.next, .slice y.mA x.x.mem.length y.mc, .slice y.oA x.x.own.length y.oc, .slice y.tA x.x.att.length y.tc] 51)).alloc (.cells #[.string x.x.name, .int .i64 x.x.sub, .int .i64 x.x.term, .int .i64 x.x.next, .slice x.mA x.x.mem.length x.mc, .slice x.oA x.x.own.length x.oc, .slice x.tA x.x.att.length x.tc] 51)).drew := ⟨_, rfl⟩
        have BW : Kp (Below wr.heap.size wr W) := ⟨by rw [hW]; exact below_drew (((Below.refl _ wr).alloc (Nat.le_refl _) _).alloc (by simp) _)⟩
        have X1 : Kp (Bx W (wr.heap.size + 1) x.x.name x.x.sub x.x.term x.x.next (.slice x.mA x.x.mem.length x.mc) (.slice x.oA x.x.own.length x.oc) (.slice x.tA x.x.att.length x.tc)) := ⟨by rw [hW]; exact blk_new1 _ _ _⟩
        have Y1 : Kp (Bx W wr.heap.size x.x.name x.x.sub x.x.term x.x.next (.slice y.mA x.x.mem.length y.mc) (.slice y.oA x.x.own.length y.oc) (.slice y.tA x.x.att.length y.tc)) := ⟨by rw [hW]; exact blk_old _ (blk_new _ _)⟩
        have hs1 : wr.heap.size + 2 ≤ W.heap.size := by rw [hW]; simp
        rw [← hW]
        clear hW a0 a1 a2 a3 a4 a5 a6 b0 b1 b2 b3 b4 b5 b6
        obtain ⟨p0, p1, p2, p3, p4, p5, p6, _⟩ := X1.it.cells
        obtain ⟨q0, q1, q2, q3, q4, q5, q6, _⟩ := Y1.it.cells
        go_wp2_with fail
        go_at_call 68
        refine (samel_any x.mA y.mA x.x.mem.length x.mc y.mc x.x.mem W ((K1.it.below BW.it).m) (by rw [← HXY.it]; exact (K2.it.below BW.it).m)).mono ?_
        rintro e W' ⟨rfl, hb⟩
        have X2 := Kp.mk (X1.it.kept hb (by omega))
        have Y2 := Kp.mk (Y1.it.kept hb (by omega))
        have hs2 : wr.heap.size + 2 ≤ W'.heap.size := by have := hb.size; omega
        have BW1 : Kp (Below wr.heap.size wr W') := ⟨BW.it.trans (hb.mono BW.it.size)⟩
        clear BW hb p0 p1 p2 p3 p4 p5 p6 q0 q1 q2 q3 q4 q5 q6
        have BW := BW1
        clear BW1
        obtain ⟨p0, p1, p2, p3, p4, p5, p6, _⟩ := X2.it.cells
        obtain ⟨q0, q1, q2, q3, q4, q5, q6, _⟩ := Y2.it.cells
        go_wp2_with fail
        go_at_call 68
        refine (samel_any x.oA y.oA x.x.own.length x.oc y.oc x.x.own W' ((K1.it.below BW.it).o) (by rw [← HXY.it]; exact (K2.it.below BW.it).o)).mono ?_
        rintro e W'' ⟨rfl, hb⟩
        have X3 := Kp.mk (X2.it.kept hb (by omega))
        have Y3 := Kp.mk (Y2.it.kept hb (by omega))
        have hs3 : wr.heap.size + 2 ≤ W''.heap.size := by have := hb.size; omega
        have BW2 : Kp (Below wr.heap.size wr W'') := ⟨BW.it.trans (hb.mono BW.it.size)⟩
        clear BW hb p0 p1 p2 p3 p4 p5 p6 q0 q1 q2 q3 q4 q5 q6
        have BW := BW2
        clear BW2
        obtain ⟨p0, p1, p2, p3, p4, p5, p6, _⟩ := X3.it.cells
        obtain ⟨q0, q1, q2, q3, q4, q5, q6, _⟩ := Y3.it.cells
        go_wp2_with fail
        go_at_call 68
        refine (samel_any x.tA y.tA x.x.att.length x.tc y.tc x.x.att W'' ((K1.it.below BW.it).t) (by rw [← HXY.it]; exact (K2.it.below BW.it).t)).mono ?_
        rintro e W''' ⟨rfl, hb⟩
        have X4 := Kp.mk (X3.it.kept hb (by omega))
        have Y4 := Kp.mk (Y3.it.kept hb (by omega))
        have hs4 : wr.heap.size + 2 ≤ W'''.heap.size := by have := hb.size; omega
        have BW3 : Kp (Below wr.heap.size wr W''') := ⟨BW.it.trans (hb.mono BW.it.size)⟩
        clear BW hb p0 p1 p2 p3 p4 p5 p6 q0 q1 q2 q3 q4 q5 q6
        have BW := BW3
        clear BW3
        go_wp2
        go_roundw
        case rel => exact ⟨k + 1, by omega, by go_num, ⟨HW.it.trans (BW.it.mono HW.it.size)⟩⟩
        case measure => simp [intOf]; omega
    · go_wp2
      go_ret
      exact ⟨rfl, HW.it⟩
end Go.Proofs.Ytemnhmnompehoaa
