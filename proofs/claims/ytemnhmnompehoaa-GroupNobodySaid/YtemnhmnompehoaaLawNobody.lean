/-
  GroupNobody: Groups that no call made.
-/
import Derived.Test.YtemnhmnompehoaaByt
import Derived.Test.YtemnhmnompehoaaList
import Derived.Test.YtemnhmnompehoaaSame
import Derived.Test.YtemnhmnompehoaaRName
import Derived.Test.YtemnhmnompehoaaAwake
import Derived.Test.YtemnhmnompehoaaReg2
namespace Go.Proofs.Ytemnhmnompehoaa
open Go.ChangeShapes Go.WideShapes Go.ChangeAt Go.RowKit

theorem wz0 : IntKind.i64.wrap 0 = 0 := IntWalk.i64_in 0 (by omega)
theorem commit_dead {w : World} {P : Value} {s : ByteArray} {E : Int} (hE : (E == 0) = false) (H : FindE w P s E) (m t q pos : Int) :
    Calls Try.prog 46 #[P, .string s, .int .i64 m, .int .i64 t, .int .i64 q, .int .i64 pos] w fun e w' => e = .returned (.int .i64 E) ∧ Below w.heap.size w w' := by
  have HO := Kp.mk (owns_err hE H m t q)
  clear H
  go_enter Try.func46, Try.ntmps46
  go_wp2_with (go_at_call 31; refine HO.it.mono ?_; rintro e w1 ⟨rfl, hb1⟩)
  go_ret
  exact ⟨rfl, hb1⟩
def zv : Gv := ⟨⟨⟨#[]⟩, 0, 0, 0, [], [], []⟩, none, 0, none, 0, none, 0⟩
theorem zv_ok (w : World) : GOk w zv := by
  have r : Rd w none 0 [] := ⟨rfl, by decide, fun h => absurd h (Nat.lt_irrefl _)⟩
  exact ⟨r, r, r, fun _ => rfl, fun _ => rfl, fun _ => rfl, Nat.le_refl _, Nat.le_refl _, Nat.le_refl _⟩
theorem rd_one (W : World) (k : Dv) (hk : k.name.size ≤ maxLen) : RD (W.alloc (.cells k.cells 40)) (some ⟨W.heap.size, 0, none⟩) 1 [k] := by
  have hh : (W.alloc (.cells k.cells 40)).heap[W.heap.size]? = some (.cells k.cells 40 (0, 0)) := blk_new _ _
  refine ⟨rfl, by decide, fun d hd => by simp at hd; subst hd; exact hk, fun _ => ⟨W.heap.size, 0, rfl, (Array.getElem?_eq_some_iff.1 hh).1, fun i d hd j u hu => ?_⟩⟩
  match i, hd with
  | 0, hd =>
    cases hd
    rw [show 0 + (0 * 8 + j) = j by omega]
    exact blk_cell hh hu
  | q + 1, hd => simp at hd
theorem same_zv {w : World} {a b : Nat} (ha : w.heap[a]? = some (.cells zv.cells.toArray 51 (0, 0))) (hb : w.heap[b]? = some (.cells zv.cells.toArray 51 (0, 0))) :
    Calls Try.prog 34 #[.slice (some ⟨a, 0, none⟩) 1 1, .slice (some ⟨b, 0, none⟩) 1 1] w fun e w' => e = .returned (.bool true) ∧ Below w.heap.size w w' := by
  have rg : ∀ a, w.heap[a]? = some (.cells zv.cells.toArray 51 (0, 0)) → RG w (some ⟨a, 0, none⟩) 1 [zv] := fun a ha => ⟨rfl, by decide, fun _ => ⟨a, _, rfl, (Array.getElem?_eq_some_iff.1 ha).1, ha, by decide, fun i x hx j hj => by
    match i, hx with
    | 0, hx => cases hx; rw [Nat.zero_mul, Nat.zero_add]; simp
    | q + 1, hx => simp at hx⟩⟩
  exact same_any _ _ 1 1 1 [zv] [zv] w (rg a ha) (rg b hb) (fun x hx => by simp at hx; subst hx; exact zv_ok w) (fun x hx => by simp at hx; subst hx; exact zv_ok w) rfl

set_option linter.unusedVariables false in
set_option linter.unusedSimpArgs false in
set_option maxRecDepth 100000 in
set_option maxHeartbeats 8000000 in
theorem nobody_walk (k : Dv) (hk : k.name.size ≤ maxLen) (A : Option Addr) (n c : Nat) (bs : List UInt8) (w : World) (h : Rb w A n bs) :
    Calls Try.prog 11 #[.agg k.cells, .slice A n c] w fun e w' => e = .returned (.bool true) ∧ Below w.heap.size w w' := by
  have hbd := h.bd
  have HB := Kp.mk h
  obtain ⟨wa, hwa⟩ : ∃ wa, wa = w.alloc (.cells k.cells 40) := ⟨_, rfl⟩
  have B1 : Kp (Below w.heap.size w wa) := ⟨by rw [hwa]; exact (Below.refl _ w).alloc (Nat.le_refl _) _⟩
  have B2 : Kp (Below w.heap.size w (wa.alloc (.cells k.cells 40))) := ⟨B1.it.alloc B1.it.size _⟩
  have R2 : Kp (RD (wa.alloc (.cells k.cells 40)) (some ⟨wa.heap.size, 0, none⟩) 1 [k]) := ⟨rd_one wa k hk⟩
  have X1 : Kp ((wa.alloc (.cells k.cells 40)).heap[w.heap.size]? = some (.cells k.cells 40 (0, 0))) := ⟨by rw [hwa]; exact blk_old _ (blk_new _ _)⟩
  have SZ : Kp (wa.heap.size = w.heap.size + 1) := ⟨by rw [hwa]; simp⟩
  have HK := Kp.mk hk
  rw [SZ.it] at R2
  rw [hwa] at B1 B2 R2 X1 SZ
  clear h hwa hk
  go_enter Try.func11, Try.ntmps11
  go_wp2_with fail
  go_at_call 21
  refine (short_any _ 1 1 [k] _ R2.it).mono ?_
  rintro e wb ⟨b, rfl, _, rfl⟩
  cases b with
  | false =>
    go_wp2_with (go_at_call 13; refine (awake_any _).mono ?_; rintro e w' ⟨rfl, hb'⟩)
    go_ret
    exact ⟨rfl, B2.it.trans (hb'.mono B2.it.size)⟩
  | true =>
    by_cases hn : 4096 < n
    · have hn' : 4096 < (n : Int) := by omega
      go_wp2_with (go_at_call 13; refine (awake_any _).mono ?_; rintro e w' ⟨rfl, hb'⟩)
      go_ret
      exact ⟨rfl, B2.it.trans (hb'.mono B2.it.size)⟩
    · have hn' : (n : Int) ≤ 4096 := by omega
      obtain ⟨wc, hwc⟩ : ∃ wc, wc = (w.alloc (.cells k.cells 40)).alloc (.cells k.cells 40) := ⟨_, rfl⟩
      rw [← hwc] at B2 X1 ⊢
      have hsc : wc.heap.size = w.heap.size + 2 := by rw [hwc]; simp
      clear hwc R2
      have HBc := Kp.mk (HB.it.below B2.it)
      have Z1 : Kp (((wc.alloc (.cells #[.slice none 0 0, .bool false] 68)).alloc (.cells #[.pointer none, .pointer (some ⟨w.heap.size + 2, 0, none⟩)] 33)).heap[w.heap.size + 2]? = some (.cells #[.slice none 0 0, .bool false] 68 (0, 0))) := ⟨by rw [← hsc]; exact blk_old _ (blk_new _ _)⟩
      have Z2 : Kp (((wc.alloc (.cells #[.slice none 0 0, .bool false] 68)).alloc (.cells #[.pointer none, .pointer (some ⟨w.heap.size + 2, 0, none⟩)] 33)).heap[w.heap.size + 3]? = some (.cells #[.pointer none, .pointer (some ⟨w.heap.size + 2, 0, none⟩)] 33 (0, 0))) := ⟨by have := blk_new1 wc (.cells #[.slice none 0 0, .bool false] 68) (.cells #[.pointer none, .pointer (some ⟨w.heap.size + 2, 0, none⟩)] 33); rw [hsc] at this; exact this⟩
      have Z3 : Kp (Below wc.heap.size wc ((wc.alloc (.cells #[.slice none 0 0, .bool false] 68)).alloc (.cells #[.pointer none, .pointer (some ⟨w.heap.size + 2, 0, none⟩)] 33))) := ⟨((Below.refl _ _).alloc (Nat.le_refl _) _).alloc (by simp) _⟩
      obtain ⟨wd, hwd⟩ : ∃ wd, wd = (wc.alloc (.cells #[.slice none 0 0, .bool false] 68)).alloc (.cells #[.pointer none, .pointer (some ⟨w.heap.size + 2, 0, none⟩)] 33) := ⟨_, rfl⟩
      go_wp2
      rw [← hwd] at Z1 Z2 Z3 ⊢
      have hsd : wd.heap.size = w.heap.size + 4 := by rw [hwd]; simp; omega
      clear hwd
      go_loopw [29] (fun i wr => ∃ j : Nat, j ≤ 2 ∧ i = .int .i64 j ∧ Kp (Below wd.heap.size wd wr)) (fun i _ => 2 - (intOf i).toNat)
      case atStart => exact ⟨0, by omega, rfl, ⟨Below.refl _ _⟩⟩
      case round =>
        obtain ⟨j, hj, rfl, HW⟩ := hrel
        have X9 : Kp (wr.heap[w.heap.size]? = some (.cells k.cells 40 (0, 0))) := ⟨(HW.it.block _ (by omega)).trans ((Z3.it.block _ (by omega)).trans X1.it)⟩
        have HBr : Kp (Rb wr A n bs) := ⟨(HBc.it.below Z3.it).below HW.it⟩
        have hsr : wd.heap.size ≤ wr.heap.size := HW.it.size
        by_cases hj2 : j < 2
        · have hj2' : (j : Int) < 2 := by omega
          obtain ⟨P, hP, hD⟩ : ∃ P, wr.cell? ⟨w.heap.size + 3, j, none⟩ = some P ∧ DeadP wr P := by
            have h3 : wr.heap[w.heap.size + 3]? = some (.cells #[.pointer none, .pointer (some ⟨w.heap.size + 2, 0, none⟩)] 33 (0, 0)) := (HW.it.block _ (by omega)).trans Z2.it
            match j, hj2 with
            | 0, _ => exact ⟨_, blk_cell h3 rfl, dead_nil _⟩
            | 1, _ => exact ⟨_, blk_cell h3 rfl, dead_un ((HW.it.block _ (by omega)).trans Z1.it)⟩
          have D0 := Kp.mk hD
          clear hD
          have k1 := blk_cell X9.it (show k.cells[1]? = some (.string k.name) from rfl)
          go_wp2_with fail
          go_at_call 41
          refine (get_err rfl (D0.it.find k.name)).mono ?_
          rintro e w1 ⟨rfl, hb1⟩
          have hs1 := hb1.size
          have D1 := Kp.mk (D0.it.below hb1)
          have Y1 : Kp (w1.heap[w.heap.size]? = some (.cells k.cells 40 (0, 0))) := ⟨(hb1.block _ (by omega)).trans X9.it⟩
          have W1 : Kp (Below wr.heap.size wr w1) := ⟨hb1⟩
          have l1 := blk_cell Y1.it (show k.cells[1]? = some (.string k.name) from rfl)
          obtain ⟨wx, hwx⟩ : ∃ wx, wx = w1.alloc (.cells zc 51) := ⟨_, rfl⟩
          have W2 : Kp (Below wr.heap.size wr wx) := ⟨by rw [hwx]; exact W1.it.alloc hs1 _⟩
          have X2 : Kp (wx.heap[w1.heap.size]? = some (.cells zc 51 (0, 0))) := ⟨by rw [hwx]; exact blk_new _ _⟩
          have Y2 : Kp (wx.heap[w.heap.size]? = some (.cells k.cells 40 (0, 0))) := ⟨(W2.it.block _ (by omega)).trans X9.it⟩
          have hsx : wx.heap.size = w1.heap.size + 1 := by rw [hwx]; simp
          have hne1 : ¬ w1.heap.size = w.heap.size := by omega
          have hne2 : ¬ w.heap.size = w1.heap.size := by omega
          have hlt1 : w.heap.size < w1.heap.size := by omega
          clear hb1 k1
          go_wp2_with fail
          rw [← hwx]
          clear hwx l1
          go_at_call 42
          refine (drop_err rfl ((D0.it.below W2.it).find k.name)).mono ?_
          rintro e w2 ⟨rfl, hb2⟩
          obtain ⟨X, hX⟩ : ∃ X, X = w1.heap.size := ⟨_, rfl⟩
          rw [← hX] at X2 hsx ⊢
          have hs2 := hb2.size
          have W3 : Kp (Below wr.heap.size wr w2) := ⟨W2.it.trans (hb2.mono (by omega))⟩
          have X3 : Kp (w2.heap[X]? = some (.cells zc 51 (0, 0))) := ⟨(hb2.block _ (by omega)).trans X2.it⟩
          have Y3 : Kp (w2.heap[w.heap.size]? = some (.cells k.cells 40 (0, 0))) := ⟨(W3.it.block _ (by omega)).trans X9.it⟩
          have k3 := blk_cell Y3.it (show k.cells[1]? = some (.string k.name) from rfl)
          have hX3 : X < w2.heap.size := by omega
          have hXr : wr.heap.size ≤ X := by omega
          clear hb2 hX
          go_wp2_with fail
          go_at_call 43
          refine (join_err rfl ((D0.it.below W3.it).find k.name)).mono ?_
          rintro e w3 ⟨rfl, hb3⟩
          have hs3 := hb3.size
          have W4 : Kp (Below wr.heap.size wr w3) := ⟨W3.it.trans (hb3.mono (by omega))⟩
          have X4 : Kp (w3.heap[X]? = some (.cells zc 51 (0, 0))) := ⟨(hb3.block _ (by omega)).trans X3.it⟩
          have Y4 : Kp (w3.heap[w.heap.size]? = some (.cells k.cells 40 (0, 0))) := ⟨(W4.it.block _ (by omega)).trans X9.it⟩
          have k4 := blk_cell Y4.it (show k.cells[1]? = some (.string k.name) from rfl)
          clear hb3 k3
          go_wp2_with fail
          go_at_call 29
          refine (low_err rfl ((D0.it.below W4.it).find k.name)).mono ?_
          rintro e w4 ⟨rfl, hb4⟩
          have hs4 := hb4.size
          have W5 : Kp (Below wr.heap.size wr w4) := ⟨W4.it.trans (hb4.mono (by omega))⟩
          have X5 : Kp (w4.heap[X]? = some (.cells zc 51 (0, 0))) := ⟨(hb4.block _ (by omega)).trans X4.it⟩
          have Y5 : Kp (w4.heap[w.heap.size]? = some (.cells k.cells 40 (0, 0))) := ⟨(W5.it.block _ (by omega)).trans X9.it⟩
          have D9 := Kp.mk (D0.it.below W5.it)
          have HB9 := Kp.mk (HBr.it.below W5.it)
          have hk9 : w.heap.size < w4.heap.size := by omega
          have hx9 : X < w4.heap.size := by omega
          clear hb4 k4
          go_wp2_with fail
          obtain ⟨k91, k92, k93, k94, k95, k96, k97⟩ : w4.cell? ⟨w.heap.size, 1, none⟩ = some (.string k.name) ∧ w4.cell? ⟨w.heap.size, 2, none⟩ = some (.int .i64 k.parts) ∧ w4.cell? ⟨w.heap.size, 3, none⟩ = some (.int .i64 k.sub) ∧ w4.cell? ⟨w.heap.size, 4, none⟩ = some (.int .i64 k.att) ∧ w4.cell? ⟨w.heap.size, 5, none⟩ = some (.int .i64 k.member) ∧ w4.cell? ⟨w.heap.size, 6, none⟩ = some (.int .i64 k.term) ∧ w4.cell? ⟨w.heap.size, 7, none⟩ = some (.int .i64 k.part) :=
            ⟨blk_cell Y5.it rfl, blk_cell Y5.it rfl, blk_cell Y5.it rfl, blk_cell Y5.it rfl, blk_cell Y5.it rfl, blk_cell Y5.it rfl, blk_cell Y5.it rfl⟩
          obtain ⟨x90, x91, x92, x93, x94, x95, x96, _⟩ := Bx.cells (a := ⟨#[]⟩) (s := 0) (t := 0) (n := 0) (m := .slice none 0 0) (o := .slice none 0 0) (p := .slice none 0 0) X5.it
          refine wp_region_sp [.ex (.agg #[.string ⟨#[]⟩, .int .i64 0, .int .i64 0, .int .i64 0, .slice none 0 0, .slice none 0 0, .slice none 0 0]), .bx 1 (#[.string ⟨#[]⟩, .int .i64 0, .int .i64 0, .int .i64 0, .slice none 0 0, .slice none 0 0, .slice none 0 0]) 51, .ex (.agg #[.string ⟨#[]⟩, .int .i64 0, .int .i64 0, .int .i64 0, .slice none 0 0, .slice none 0 0, .slice none 0 0]), .bx 1 (#[.string ⟨#[]⟩, .int .i64 0, .int .i64 0, .int .i64 0, .slice none 0 0, .slice none 0 0, .slice none 0 0]) 51, .ex (.bool true), .ex (.bool false), .ex (.bool false), .ex (.int .i64 0), .ex (.int .i64 0), .ex (.int .i64 0), .ex (.int .i64 0), .ex (.int .i64 0), .ex (P), .ex (.slice none 0 0), .ex (.int .i64 0), .ex (.int .i64 0), .ex (.bool false), .ex (.bool false), .ex (.bool false), .ex (.int .i64 6), .ex (.bool false), .ex (.bool false), .ex (.bool false), .ex (.int .i64 6), .ex (.bool false), .ex (.bool false), .ex (.bool false), .ex (.int .i64 6), .ex (.bool false), .ex (.bool false), .ex (.bool false), .ex (.int .i64 6), .ex (.bool false), .ex (.bool false), .ex (.bool false), .ex (P), .ex (.pointer (some ⟨w.heap.size, 1, none⟩)), .ex (.string k.name), .ex (.pointer (some ⟨w.heap.size, 2, none⟩)), .ex (.int .i64 k.parts), .ex (.pointer (some ⟨w.heap.size, 3, none⟩)), .ex (.int .i64 k.sub), .ex (.pointer (some ⟨w.heap.size, 4, none⟩)), .ex (.int .i64 k.att), .ex (.int .i64 6), .ex (.bool false), .ex (.bool false), .ex (.bool false), .ex (P), .ex (.pointer (some ⟨w.heap.size, 1, none⟩)), .ex (.string k.name), .ex (.pointer (some ⟨w.heap.size, 5, none⟩)), .ex (.int .i64 k.member), .ex (.int .i64 6), .ex (.bool false), .ex (.bool false), .ex (.bool false), .ex (P), .ex (.pointer (some ⟨w.heap.size, 1, none⟩)), .ex (.string k.name), .ex (.pointer (some ⟨w.heap.size, 5, none⟩)), .ex (.int .i64 k.member), .ex (.pointer (some ⟨w.heap.size, 6, none⟩)), .ex (.int .i64 k.term), .ex (.pointer (some ⟨w.heap.size, 7, none⟩)), .ex (.int .i64 k.part), .ex (.pointer (some ⟨w.heap.size, 4, none⟩)), .ex (.int .i64 k.att), .ex (.int .i64 6), .ex (.bool false), .ex (.bool false), .ex (.bool false), .ex (P), .ex (.slice A n c), .ex (.slice A n c), .ex (.string ⟨bs.toArray⟩), .ex (.slice A n c), .ex (.string ⟨bs.toArray⟩), .ex (.bool false), .ex (.bool false)] (by kernel_rfl) (by kernel_rfl) ?_ ?_
          · intro i o ho a W hbW hG
            match i with
            | 0 =>
              have ho1 := ho
              cases ho
              have t7 : a.tmps.getD 7 undef = .pointer (some ⟨X, 0, none⟩) := hG.old 7 (by decide)
              have q1 := (hbW.cell (p := ⟨w.heap.size, 1, none⟩) hk9).trans k91
              have q2 := (hbW.cell (p := ⟨w.heap.size, 2, none⟩) hk9).trans k92
              have q3 := (hbW.cell (p := ⟨w.heap.size, 3, none⟩) hk9).trans k93
              have q4 := (hbW.cell (p := ⟨w.heap.size, 4, none⟩) hk9).trans k94
              have q5 := (hbW.cell (p := ⟨w.heap.size, 5, none⟩) hk9).trans k95
              have q6 := (hbW.cell (p := ⟨w.heap.size, 6, none⟩) hk9).trans k96
              have q7 := (hbW.cell (p := ⟨w.heap.size, 7, none⟩) hk9).trans k97
              have p0 := (hbW.cell (p := ⟨X, 0, none⟩) hx9).trans x90
              have p1 := (hbW.cell (p := ⟨X, 1, none⟩) hx9).trans x91
              have p2 := (hbW.cell (p := ⟨X, 2, none⟩) hx9).trans x92
              have p3 := (hbW.cell (p := ⟨X, 3, none⟩) hx9).trans x93
              have p4 := (hbW.cell (p := ⟨X, 4, none⟩) hx9).trans x94
              have p5 := (hbW.cell (p := ⟨X, 5, none⟩) hx9).trans x95
              have p6 := (hbW.cell (p := ⟨X, 6, none⟩) hx9).trans x96
              exact op_value_g (w1 := W) ho1 (wanted_none rfl) (.agg #[.string ⟨#[]⟩, .int .i64 0, .int .i64 0, .int .i64 0, .slice none 0 0, .slice none 0 0, .slice none 0 0]) (by simp [go_sem, Act.eval, -Array.getD_eq_getD_getElem?, t7, q1, q2, q3, q4, q5, q6, q7, p0, p1, p2, p3, p4, p5, p6]) (Gr.refl _) rfl
            | 1 =>
              have ho1 := ho
              cases ho
              have t61 : a.tmps.getD 61 undef = .agg #[.string ⟨#[]⟩, .int .i64 0, .int .i64 0, .int .i64 0, .slice none 0 0, .slice none 0 0, .slice none 0 0] := hG.dep 0 (by decide) 61 rfl
              exact op_value_g (w1 := W.alloc (.cells #[.string ⟨#[]⟩, .int .i64 0, .int .i64 0, .int .i64 0, .slice none 0 0, .slice none 0 0, .slice none 0 0] 51)) ho1 (wanted_none rfl) (.slice (some ⟨W.heap.size, 0, none⟩) 1 1) (by simp [go_sem, Act.eval, -Array.getD_eq_getD_getElem?, t61]) ((Below.refl _ _).alloc (Nat.le_refl _) _) ⟨_, rfl, blk_new _ _⟩
            | 2 =>
              have ho1 := ho
              cases ho
              exact op_value_g (w1 := W) ho1 (wanted_none rfl) (.agg #[.string ⟨#[]⟩, .int .i64 0, .int .i64 0, .int .i64 0, .slice none 0 0, .slice none 0 0, .slice none 0 0]) (by simp [go_sem, Act.eval, -Array.getD_eq_getD_getElem?, ]) (Gr.refl _) rfl
            | 3 =>
              have ho1 := ho
              cases ho
              have t63 : a.tmps.getD 63 undef = .agg #[.string ⟨#[]⟩, .int .i64 0, .int .i64 0, .int .i64 0, .slice none 0 0, .slice none 0 0, .slice none 0 0] := hG.dep 2 (by decide) 63 rfl
              exact op_value_g (w1 := W.alloc (.cells #[.string ⟨#[]⟩, .int .i64 0, .int .i64 0, .int .i64 0, .slice none 0 0, .slice none 0 0, .slice none 0 0] 51)) ho1 (wanted_none rfl) (.slice (some ⟨W.heap.size, 0, none⟩) 1 1) (by simp [go_sem, Act.eval, -Array.getD_eq_getD_getElem?, t63]) ((Below.refl _ _).alloc (Nat.le_refl _) _) ⟨_, rfl, blk_new _ _⟩
            | 4 =>
              have ho1 := ho
              cases ho
              obtain ⟨b62, t62, g62⟩ : (SpG.bx 1 (#[.string ⟨#[]⟩, .int .i64 0, .int .i64 0, .int .i64 0, .slice none 0 0, .slice none 0 0, .slice none 0 0]) 51).holds (a.tmps.getD 62 undef) W := hG.dep 1 (by decide) 62 rfl
              obtain ⟨b64, t64, g64⟩ : (SpG.bx 1 (#[.string ⟨#[]⟩, .int .i64 0, .int .i64 0, .int .i64 0, .slice none 0 0, .slice none 0 0, .slice none 0 0]) 51).holds (a.tmps.getD 64 undef) W := hG.dep 3 (by decide) 64 rfl
              refine op_call_g ho1 (wanted_none rfl) 34 #[.slice (some ⟨b62, 0, none⟩) 1 1, .slice (some ⟨b64, 0, none⟩) 1 1] (by simp [go_sem, Act.eval, -Array.getD_eq_getD_getElem?, t62, t64]) ?_
              refine (same_zv g62 g64).mono ?_
              rintro e W' ⟨rfl, hb'⟩
              exact ⟨_, rfl, hb', rfl⟩
            | 5 =>
              have ho1 := ho
              cases ho
              have t65 : a.tmps.getD 65 undef = .bool true := hG.dep 4 (by decide) 65 rfl
              exact op_value_g (w1 := W) ho1 (wanted_none rfl) (.bool false) (by simp [go_sem, Act.eval, -Array.getD_eq_getD_getElem?, t65]) (Gr.refl _) rfl
            | 6 =>
              have ho1 := ho
              cases ho
              have t66 : a.tmps.getD 66 undef = .bool false := hG.dep 5 (by decide) 66 rfl
              exact op_value_g (w1 := W) ho1 (wanted_none rfl) (.bool false) (by simp [go_sem, Act.eval, -Array.getD_eq_getD_getElem?, t66]) (Gr.refl _) rfl
            | 7 =>
              have ho1 := ho
              cases ho
              have t9 : a.tmps.getD 9 undef = .int .i64 0 := hG.old 9 (by decide)
              have t67 : a.tmps.getD 67 undef = .bool false := hG.dep 6 (by decide) 67 rfl
              exact op_value_g (w1 := W) ho1 (wanted_yes rfl rfl t67) (.int .i64 0) (by simp [go_sem, Act.eval, -Array.getD_eq_getD_getElem?, wz0, t9, t67]) (Gr.refl _) rfl
            | 8 =>
              have ho1 := ho
              cases ho
              have t11 : a.tmps.getD 11 undef = .int .i64 0 := hG.old 11 (by decide)
              have t67 : a.tmps.getD 67 undef = .bool false := hG.dep 6 (by decide) 67 rfl
              exact op_value_g (w1 := W) ho1 (wanted_yes rfl rfl t67) (.int .i64 0) (by simp [go_sem, Act.eval, -Array.getD_eq_getD_getElem?, wz0, t11, t67]) (Gr.refl _) rfl
            | 9 =>
              have ho1 := ho
              cases ho
              have t68 : a.tmps.getD 68 undef = .int .i64 0 := hG.dep 7 (by decide) 68 rfl
              have t69 : a.tmps.getD 69 undef = .int .i64 0 := hG.dep 8 (by decide) 69 rfl
              have t67 : a.tmps.getD 67 undef = .bool false := hG.dep 6 (by decide) 67 rfl
              exact op_value_g (w1 := W) ho1 (wanted_yes rfl rfl t67) (.int .i64 0) (by simp [go_sem, Act.eval, -Array.getD_eq_getD_getElem?, wz0, t68, t69, t67]) (Gr.refl _) rfl
            | 10 =>
              have ho1 := ho
              cases ho
              have t13 : a.tmps.getD 13 undef = .int .i64 0 := hG.old 13 (by decide)
              have t67 : a.tmps.getD 67 undef = .bool false := hG.dep 6 (by decide) 67 rfl
              exact op_value_g (w1 := W) ho1 (wanted_yes rfl rfl t67) (.int .i64 0) (by simp [go_sem, Act.eval, -Array.getD_eq_getD_getElem?, wz0, t13, t67]) (Gr.refl _) rfl
            | 11 =>
              have ho1 := ho
              cases ho
              have t70 : a.tmps.getD 70 undef = .int .i64 0 := hG.dep 9 (by decide) 70 rfl
              have t71 : a.tmps.getD 71 undef = .int .i64 0 := hG.dep 10 (by decide) 71 rfl
              have t67 : a.tmps.getD 67 undef = .bool false := hG.dep 6 (by decide) 67 rfl
              exact op_value_g (w1 := W) ho1 (wanted_yes rfl rfl t67) (.int .i64 0) (by simp [go_sem, Act.eval, -Array.getD_eq_getD_getElem?, wz0, t70, t71, t67]) (Gr.refl _) rfl
            | 12 =>
              have ho1 := ho
              cases ho
              have t6 : a.tmps.getD 6 undef = P := hG.old 6 (by decide)
              have t67 : a.tmps.getD 67 undef = .bool false := hG.dep 6 (by decide) 67 rfl
              exact op_value_g (w1 := W) ho1 (wanted_yes rfl rfl t67) (P) (by simp [go_sem, Act.eval, -Array.getD_eq_getD_getElem?, t6, t67]) (Gr.refl _) rfl
            | 13 =>
              have ho1 := ho
              cases ho
              have t73 : a.tmps.getD 73 undef = P := hG.dep 12 (by decide) 73 rfl
              have t67 : a.tmps.getD 67 undef = .bool false := hG.dep 6 (by decide) 67 rfl
              refine op_call_g ho1 (wanted_yes rfl rfl t67) 33 #[P] (by simp [go_sem, Act.eval, -Array.getD_eq_getD_getElem?, t73, t67]) ?_
              refine (list_dead (D9.it.below hbW)).mono ?_
              rintro e W' ⟨rfl, rfl⟩
              exact ⟨_, rfl, Gr.refl _, rfl⟩
            | 14 =>
              have ho1 := ho
              cases ho
              have t74 : a.tmps.getD 74 undef = .slice none 0 0 := hG.dep 13 (by decide) 74 rfl
              have t67 : a.tmps.getD 67 undef = .bool false := hG.dep 6 (by decide) 67 rfl
              exact op_value_g (w1 := W) ho1 (wanted_yes rfl rfl t67) (.int .i64 0) (by simp [go_sem, Act.eval, -Array.getD_eq_getD_getElem?, wz0, t74, t67]) (Gr.refl _) rfl
            | 15 =>
              have ho1 := ho
              cases ho
              have t72 : a.tmps.getD 72 undef = .int .i64 0 := hG.dep 11 (by decide) 72 rfl
              have t75 : a.tmps.getD 75 undef = .int .i64 0 := hG.dep 14 (by decide) 75 rfl
              have t67 : a.tmps.getD 67 undef = .bool false := hG.dep 6 (by decide) 67 rfl
              exact op_value_g (w1 := W) ho1 (wanted_yes rfl rfl t67) (.int .i64 0) (by simp [go_sem, Act.eval, -Array.getD_eq_getD_getElem?, wz0, t72, t75, t67]) (Gr.refl _) rfl
            | 16 =>
              have ho1 := ho
              cases ho
              have t76 : a.tmps.getD 76 undef = .int .i64 0 := hG.dep 15 (by decide) 76 rfl
              have t67 : a.tmps.getD 67 undef = .bool false := hG.dep 6 (by decide) 67 rfl
              exact op_value_g (w1 := W) ho1 (wanted_yes rfl rfl t67) (.bool false) (by simp [go_sem, Act.eval, -Array.getD_eq_getD_getElem?, t76, t67]) (Gr.refl _) rfl
            | 17 =>
              have ho1 := ho
              cases ho
              have t67 : a.tmps.getD 67 undef = .bool false := hG.dep 6 (by decide) 67 rfl
              have t77 : a.tmps.getD 77 undef = .bool false := hG.dep 16 (by decide) 77 rfl
              exact op_value_g (w1 := W) ho1 (wanted_none rfl) (.bool false) (by simp [go_sem, Act.eval, -Array.getD_eq_getD_getElem?, t67, t77]) (Gr.refl _) rfl
            | 18 =>
              have ho1 := ho
              cases ho
              have t78 : a.tmps.getD 78 undef = .bool false := hG.dep 17 (by decide) 78 rfl
              exact op_value_g (w1 := W) ho1 (wanted_none rfl) (.bool false) (by simp [go_sem, Act.eval, -Array.getD_eq_getD_getElem?, t78]) (Gr.refl _) rfl
            | 19 =>
              have ho1 := ho
              cases ho
              have t8 : a.tmps.getD 8 undef = .int .i64 6 := hG.old 8 (by decide)
              have t79 : a.tmps.getD 79 undef = .bool false := hG.dep 18 (by decide) 79 rfl
              exact op_value_g (w1 := W) ho1 (wanted_yes rfl rfl t79) (.int .i64 6) (by simp [go_sem, Act.eval, -Array.getD_eq_getD_getElem?, t8, t79]) (Gr.refl _) rfl
            | 20 =>
              have ho1 := ho
              cases ho
              have t80 : a.tmps.getD 80 undef = .int .i64 6 := hG.dep 19 (by decide) 80 rfl
              have t79 : a.tmps.getD 79 undef = .bool false := hG.dep 18 (by decide) 79 rfl
              exact op_value_g (w1 := W) ho1 (wanted_yes rfl rfl t79) (.bool false) (by simp [go_sem, Act.eval, -Array.getD_eq_getD_getElem?, t80, t79]) (Gr.refl _) rfl
            | 21 =>
              have ho1 := ho
              cases ho
              have t79 : a.tmps.getD 79 undef = .bool false := hG.dep 18 (by decide) 79 rfl
              have t81 : a.tmps.getD 81 undef = .bool false := hG.dep 20 (by decide) 81 rfl
              exact op_value_g (w1 := W) ho1 (wanted_none rfl) (.bool false) (by simp [go_sem, Act.eval, -Array.getD_eq_getD_getElem?, t79, t81]) (Gr.refl _) rfl
            | 22 =>
              have ho1 := ho
              cases ho
              have t82 : a.tmps.getD 82 undef = .bool false := hG.dep 21 (by decide) 82 rfl
              exact op_value_g (w1 := W) ho1 (wanted_none rfl) (.bool false) (by simp [go_sem, Act.eval, -Array.getD_eq_getD_getElem?, t82]) (Gr.refl _) rfl
            | 23 =>
              have ho1 := ho
              cases ho
              have t10 : a.tmps.getD 10 undef = .int .i64 6 := hG.old 10 (by decide)
              have t83 : a.tmps.getD 83 undef = .bool false := hG.dep 22 (by decide) 83 rfl
              exact op_value_g (w1 := W) ho1 (wanted_yes rfl rfl t83) (.int .i64 6) (by simp [go_sem, Act.eval, -Array.getD_eq_getD_getElem?, t10, t83]) (Gr.refl _) rfl
            | 24 =>
              have ho1 := ho
              cases ho
              have t84 : a.tmps.getD 84 undef = .int .i64 6 := hG.dep 23 (by decide) 84 rfl
              have t83 : a.tmps.getD 83 undef = .bool false := hG.dep 22 (by decide) 83 rfl
              exact op_value_g (w1 := W) ho1 (wanted_yes rfl rfl t83) (.bool false) (by simp [go_sem, Act.eval, -Array.getD_eq_getD_getElem?, t84, t83]) (Gr.refl _) rfl
            | 25 =>
              have ho1 := ho
              cases ho
              have t83 : a.tmps.getD 83 undef = .bool false := hG.dep 22 (by decide) 83 rfl
              have t85 : a.tmps.getD 85 undef = .bool false := hG.dep 24 (by decide) 85 rfl
              exact op_value_g (w1 := W) ho1 (wanted_none rfl) (.bool false) (by simp [go_sem, Act.eval, -Array.getD_eq_getD_getElem?, t83, t85]) (Gr.refl _) rfl
            | 26 =>
              have ho1 := ho
              cases ho
              have t86 : a.tmps.getD 86 undef = .bool false := hG.dep 25 (by decide) 86 rfl
              exact op_value_g (w1 := W) ho1 (wanted_none rfl) (.bool false) (by simp [go_sem, Act.eval, -Array.getD_eq_getD_getElem?, t86]) (Gr.refl _) rfl
            | 27 =>
              have ho1 := ho
              cases ho
              have t12 : a.tmps.getD 12 undef = .int .i64 6 := hG.old 12 (by decide)
              have t87 : a.tmps.getD 87 undef = .bool false := hG.dep 26 (by decide) 87 rfl
              exact op_value_g (w1 := W) ho1 (wanted_yes rfl rfl t87) (.int .i64 6) (by simp [go_sem, Act.eval, -Array.getD_eq_getD_getElem?, t12, t87]) (Gr.refl _) rfl
            | 28 =>
              have ho1 := ho
              cases ho
              have t88 : a.tmps.getD 88 undef = .int .i64 6 := hG.dep 27 (by decide) 88 rfl
              have t87 : a.tmps.getD 87 undef = .bool false := hG.dep 26 (by decide) 87 rfl
              exact op_value_g (w1 := W) ho1 (wanted_yes rfl rfl t87) (.bool false) (by simp [go_sem, Act.eval, -Array.getD_eq_getD_getElem?, t88, t87]) (Gr.refl _) rfl
            | 29 =>
              have ho1 := ho
              cases ho
              have t87 : a.tmps.getD 87 undef = .bool false := hG.dep 26 (by decide) 87 rfl
              have t89 : a.tmps.getD 89 undef = .bool false := hG.dep 28 (by decide) 89 rfl
              exact op_value_g (w1 := W) ho1 (wanted_none rfl) (.bool false) (by simp [go_sem, Act.eval, -Array.getD_eq_getD_getElem?, t87, t89]) (Gr.refl _) rfl
            | 30 =>
              have ho1 := ho
              cases ho
              have t90 : a.tmps.getD 90 undef = .bool false := hG.dep 29 (by decide) 90 rfl
              exact op_value_g (w1 := W) ho1 (wanted_none rfl) (.bool false) (by simp [go_sem, Act.eval, -Array.getD_eq_getD_getElem?, t90]) (Gr.refl _) rfl
            | 31 =>
              have ho1 := ho
              cases ho
              have t14 : a.tmps.getD 14 undef = .int .i64 6 := hG.old 14 (by decide)
              have t91 : a.tmps.getD 91 undef = .bool false := hG.dep 30 (by decide) 91 rfl
              exact op_value_g (w1 := W) ho1 (wanted_yes rfl rfl t91) (.int .i64 6) (by simp [go_sem, Act.eval, -Array.getD_eq_getD_getElem?, t14, t91]) (Gr.refl _) rfl
            | 32 =>
              have ho1 := ho
              cases ho
              have t92 : a.tmps.getD 92 undef = .int .i64 6 := hG.dep 31 (by decide) 92 rfl
              have t91 : a.tmps.getD 91 undef = .bool false := hG.dep 30 (by decide) 91 rfl
              exact op_value_g (w1 := W) ho1 (wanted_yes rfl rfl t91) (.bool false) (by simp [go_sem, Act.eval, -Array.getD_eq_getD_getElem?, t92, t91]) (Gr.refl _) rfl
            | 33 =>
              have ho1 := ho
              cases ho
              have t91 : a.tmps.getD 91 undef = .bool false := hG.dep 30 (by decide) 91 rfl
              have t93 : a.tmps.getD 93 undef = .bool false := hG.dep 32 (by decide) 93 rfl
              exact op_value_g (w1 := W) ho1 (wanted_none rfl) (.bool false) (by simp [go_sem, Act.eval, -Array.getD_eq_getD_getElem?, t91, t93]) (Gr.refl _) rfl
            | 34 =>
              have ho1 := ho
              cases ho
              have t94 : a.tmps.getD 94 undef = .bool false := hG.dep 33 (by decide) 94 rfl
              exact op_value_g (w1 := W) ho1 (wanted_none rfl) (.bool false) (by simp [go_sem, Act.eval, -Array.getD_eq_getD_getElem?, t94]) (Gr.refl _) rfl
            | 35 =>
              have ho1 := ho
              cases ho
              have t6 : a.tmps.getD 6 undef = P := hG.old 6 (by decide)
              have t95 : a.tmps.getD 95 undef = .bool false := hG.dep 34 (by decide) 95 rfl
              exact op_value_g (w1 := W) ho1 (wanted_yes rfl rfl t95) (P) (by simp [go_sem, Act.eval, -Array.getD_eq_getD_getElem?, t6, t95]) (Gr.refl _) rfl
            | 36 =>
              have ho1 := ho
              cases ho
              have t2 : a.tmps.getD 2 undef = .pointer (some ⟨w.heap.size, 0, none⟩) := hG.old 2 (by decide)
              have t95 : a.tmps.getD 95 undef = .bool false := hG.dep 34 (by decide) 95 rfl
              exact op_value_g (w1 := W) ho1 (wanted_yes rfl rfl t95) (.pointer (some ⟨w.heap.size, 1, none⟩)) (by simp [go_sem, Act.eval, -Array.getD_eq_getD_getElem?, t2, t95]) (Gr.refl _) rfl
            | 37 =>
              have ho1 := ho
              cases ho
              have t97 : a.tmps.getD 97 undef = .pointer (some ⟨w.heap.size, 1, none⟩) := hG.dep 36 (by decide) 97 rfl
              have t95 : a.tmps.getD 95 undef = .bool false := hG.dep 34 (by decide) 95 rfl
              have q1 := (hbW.cell (p := ⟨w.heap.size, 1, none⟩) hk9).trans k91
              have q2 := (hbW.cell (p := ⟨w.heap.size, 2, none⟩) hk9).trans k92
              have q3 := (hbW.cell (p := ⟨w.heap.size, 3, none⟩) hk9).trans k93
              have q4 := (hbW.cell (p := ⟨w.heap.size, 4, none⟩) hk9).trans k94
              have q5 := (hbW.cell (p := ⟨w.heap.size, 5, none⟩) hk9).trans k95
              have q6 := (hbW.cell (p := ⟨w.heap.size, 6, none⟩) hk9).trans k96
              have q7 := (hbW.cell (p := ⟨w.heap.size, 7, none⟩) hk9).trans k97
              have p0 := (hbW.cell (p := ⟨X, 0, none⟩) hx9).trans x90
              have p1 := (hbW.cell (p := ⟨X, 1, none⟩) hx9).trans x91
              have p2 := (hbW.cell (p := ⟨X, 2, none⟩) hx9).trans x92
              have p3 := (hbW.cell (p := ⟨X, 3, none⟩) hx9).trans x93
              have p4 := (hbW.cell (p := ⟨X, 4, none⟩) hx9).trans x94
              have p5 := (hbW.cell (p := ⟨X, 5, none⟩) hx9).trans x95
              have p6 := (hbW.cell (p := ⟨X, 6, none⟩) hx9).trans x96
              exact op_value_g (w1 := W) ho1 (wanted_yes rfl rfl t95) (.string k.name) (by simp [go_sem, Act.eval, -Array.getD_eq_getD_getElem?, t97, t95, q1, q2, q3, q4, q5, q6, q7, p0, p1, p2, p3, p4, p5, p6]) (Gr.refl _) rfl
            | 38 =>
              have ho1 := ho
              cases ho
              have t2 : a.tmps.getD 2 undef = .pointer (some ⟨w.heap.size, 0, none⟩) := hG.old 2 (by decide)
              have t95 : a.tmps.getD 95 undef = .bool false := hG.dep 34 (by decide) 95 rfl
              exact op_value_g (w1 := W) ho1 (wanted_yes rfl rfl t95) (.pointer (some ⟨w.heap.size, 2, none⟩)) (by simp [go_sem, Act.eval, -Array.getD_eq_getD_getElem?, t2, t95]) (Gr.refl _) rfl
            | 39 =>
              have ho1 := ho
              cases ho
              have t99 : a.tmps.getD 99 undef = .pointer (some ⟨w.heap.size, 2, none⟩) := hG.dep 38 (by decide) 99 rfl
              have t95 : a.tmps.getD 95 undef = .bool false := hG.dep 34 (by decide) 95 rfl
              have q1 := (hbW.cell (p := ⟨w.heap.size, 1, none⟩) hk9).trans k91
              have q2 := (hbW.cell (p := ⟨w.heap.size, 2, none⟩) hk9).trans k92
              have q3 := (hbW.cell (p := ⟨w.heap.size, 3, none⟩) hk9).trans k93
              have q4 := (hbW.cell (p := ⟨w.heap.size, 4, none⟩) hk9).trans k94
              have q5 := (hbW.cell (p := ⟨w.heap.size, 5, none⟩) hk9).trans k95
              have q6 := (hbW.cell (p := ⟨w.heap.size, 6, none⟩) hk9).trans k96
              have q7 := (hbW.cell (p := ⟨w.heap.size, 7, none⟩) hk9).trans k97
              have p0 := (hbW.cell (p := ⟨X, 0, none⟩) hx9).trans x90
              have p1 := (hbW.cell (p := ⟨X, 1, none⟩) hx9).trans x91
              have p2 := (hbW.cell (p := ⟨X, 2, none⟩) hx9).trans x92
              have p3 := (hbW.cell (p := ⟨X, 3, none⟩) hx9).trans x93
              have p4 := (hbW.cell (p := ⟨X, 4, none⟩) hx9).trans x94
              have p5 := (hbW.cell (p := ⟨X, 5, none⟩) hx9).trans x95
              have p6 := (hbW.cell (p := ⟨X, 6, none⟩) hx9).trans x96
              exact op_value_g (w1 := W) ho1 (wanted_yes rfl rfl t95) (.int .i64 k.parts) (by simp [go_sem, Act.eval, -Array.getD_eq_getD_getElem?, t99, t95, q1, q2, q3, q4, q5, q6, q7, p0, p1, p2, p3, p4, p5, p6]) (Gr.refl _) rfl
            | 40 =>
              have ho1 := ho
              cases ho
              have t2 : a.tmps.getD 2 undef = .pointer (some ⟨w.heap.size, 0, none⟩) := hG.old 2 (by decide)
              have t95 : a.tmps.getD 95 undef = .bool false := hG.dep 34 (by decide) 95 rfl
              exact op_value_g (w1 := W) ho1 (wanted_yes rfl rfl t95) (.pointer (some ⟨w.heap.size, 3, none⟩)) (by simp [go_sem, Act.eval, -Array.getD_eq_getD_getElem?, t2, t95]) (Gr.refl _) rfl
            | 41 =>
              have ho1 := ho
              cases ho
              have t101 : a.tmps.getD 101 undef = .pointer (some ⟨w.heap.size, 3, none⟩) := hG.dep 40 (by decide) 101 rfl
              have t95 : a.tmps.getD 95 undef = .bool false := hG.dep 34 (by decide) 95 rfl
              have q1 := (hbW.cell (p := ⟨w.heap.size, 1, none⟩) hk9).trans k91
              have q2 := (hbW.cell (p := ⟨w.heap.size, 2, none⟩) hk9).trans k92
              have q3 := (hbW.cell (p := ⟨w.heap.size, 3, none⟩) hk9).trans k93
              have q4 := (hbW.cell (p := ⟨w.heap.size, 4, none⟩) hk9).trans k94
              have q5 := (hbW.cell (p := ⟨w.heap.size, 5, none⟩) hk9).trans k95
              have q6 := (hbW.cell (p := ⟨w.heap.size, 6, none⟩) hk9).trans k96
              have q7 := (hbW.cell (p := ⟨w.heap.size, 7, none⟩) hk9).trans k97
              have p0 := (hbW.cell (p := ⟨X, 0, none⟩) hx9).trans x90
              have p1 := (hbW.cell (p := ⟨X, 1, none⟩) hx9).trans x91
              have p2 := (hbW.cell (p := ⟨X, 2, none⟩) hx9).trans x92
              have p3 := (hbW.cell (p := ⟨X, 3, none⟩) hx9).trans x93
              have p4 := (hbW.cell (p := ⟨X, 4, none⟩) hx9).trans x94
              have p5 := (hbW.cell (p := ⟨X, 5, none⟩) hx9).trans x95
              have p6 := (hbW.cell (p := ⟨X, 6, none⟩) hx9).trans x96
              exact op_value_g (w1 := W) ho1 (wanted_yes rfl rfl t95) (.int .i64 k.sub) (by simp [go_sem, Act.eval, -Array.getD_eq_getD_getElem?, t101, t95, q1, q2, q3, q4, q5, q6, q7, p0, p1, p2, p3, p4, p5, p6]) (Gr.refl _) rfl
            | 42 =>
              have ho1 := ho
              cases ho
              have t2 : a.tmps.getD 2 undef = .pointer (some ⟨w.heap.size, 0, none⟩) := hG.old 2 (by decide)
              have t95 : a.tmps.getD 95 undef = .bool false := hG.dep 34 (by decide) 95 rfl
              exact op_value_g (w1 := W) ho1 (wanted_yes rfl rfl t95) (.pointer (some ⟨w.heap.size, 4, none⟩)) (by simp [go_sem, Act.eval, -Array.getD_eq_getD_getElem?, t2, t95]) (Gr.refl _) rfl
            | 43 =>
              have ho1 := ho
              cases ho
              have t103 : a.tmps.getD 103 undef = .pointer (some ⟨w.heap.size, 4, none⟩) := hG.dep 42 (by decide) 103 rfl
              have t95 : a.tmps.getD 95 undef = .bool false := hG.dep 34 (by decide) 95 rfl
              have q1 := (hbW.cell (p := ⟨w.heap.size, 1, none⟩) hk9).trans k91
              have q2 := (hbW.cell (p := ⟨w.heap.size, 2, none⟩) hk9).trans k92
              have q3 := (hbW.cell (p := ⟨w.heap.size, 3, none⟩) hk9).trans k93
              have q4 := (hbW.cell (p := ⟨w.heap.size, 4, none⟩) hk9).trans k94
              have q5 := (hbW.cell (p := ⟨w.heap.size, 5, none⟩) hk9).trans k95
              have q6 := (hbW.cell (p := ⟨w.heap.size, 6, none⟩) hk9).trans k96
              have q7 := (hbW.cell (p := ⟨w.heap.size, 7, none⟩) hk9).trans k97
              have p0 := (hbW.cell (p := ⟨X, 0, none⟩) hx9).trans x90
              have p1 := (hbW.cell (p := ⟨X, 1, none⟩) hx9).trans x91
              have p2 := (hbW.cell (p := ⟨X, 2, none⟩) hx9).trans x92
              have p3 := (hbW.cell (p := ⟨X, 3, none⟩) hx9).trans x93
              have p4 := (hbW.cell (p := ⟨X, 4, none⟩) hx9).trans x94
              have p5 := (hbW.cell (p := ⟨X, 5, none⟩) hx9).trans x95
              have p6 := (hbW.cell (p := ⟨X, 6, none⟩) hx9).trans x96
              exact op_value_g (w1 := W) ho1 (wanted_yes rfl rfl t95) (.int .i64 k.att) (by simp [go_sem, Act.eval, -Array.getD_eq_getD_getElem?, t103, t95, q1, q2, q3, q4, q5, q6, q7, p0, p1, p2, p3, p4, p5, p6]) (Gr.refl _) rfl
            | 44 =>
              have ho1 := ho
              cases ho
              have t96 : a.tmps.getD 96 undef = P := hG.dep 35 (by decide) 96 rfl
              have t98 : a.tmps.getD 98 undef = .string k.name := hG.dep 37 (by decide) 98 rfl
              have t100 : a.tmps.getD 100 undef = .int .i64 k.parts := hG.dep 39 (by decide) 100 rfl
              have t102 : a.tmps.getD 102 undef = .int .i64 k.sub := hG.dep 41 (by decide) 102 rfl
              have t104 : a.tmps.getD 104 undef = .int .i64 k.att := hG.dep 43 (by decide) 104 rfl
              have t95 : a.tmps.getD 95 undef = .bool false := hG.dep 34 (by decide) 95 rfl
              refine op_call_g ho1 (wanted_yes rfl rfl t95) 44 #[P, .string k.name, .int .i64 k.parts, .int .i64 k.sub, .int .i64 k.att] (by simp [go_sem, Act.eval, -Array.getD_eq_getD_getElem?, t96, t98, t100, t102, t104, t95]) ?_
              refine (add_dead (D9.it.below hbW) _ _ _ _).mono ?_
              rintro e W' ⟨rfl, hb'⟩
              exact ⟨_, rfl, hb', rfl⟩
            | 45 =>
              have ho1 := ho
              cases ho
              have t105 : a.tmps.getD 105 undef = .int .i64 6 := hG.dep 44 (by decide) 105 rfl
              have t95 : a.tmps.getD 95 undef = .bool false := hG.dep 34 (by decide) 95 rfl
              exact op_value_g (w1 := W) ho1 (wanted_yes rfl rfl t95) (.bool false) (by simp [go_sem, Act.eval, -Array.getD_eq_getD_getElem?, t105, t95]) (Gr.refl _) rfl
            | 46 =>
              have ho1 := ho
              cases ho
              have t95 : a.tmps.getD 95 undef = .bool false := hG.dep 34 (by decide) 95 rfl
              have t106 : a.tmps.getD 106 undef = .bool false := hG.dep 45 (by decide) 106 rfl
              exact op_value_g (w1 := W) ho1 (wanted_none rfl) (.bool false) (by simp [go_sem, Act.eval, -Array.getD_eq_getD_getElem?, t95, t106]) (Gr.refl _) rfl
            | 47 =>
              have ho1 := ho
              cases ho
              have t107 : a.tmps.getD 107 undef = .bool false := hG.dep 46 (by decide) 107 rfl
              exact op_value_g (w1 := W) ho1 (wanted_none rfl) (.bool false) (by simp [go_sem, Act.eval, -Array.getD_eq_getD_getElem?, t107]) (Gr.refl _) rfl
            | 48 =>
              have ho1 := ho
              cases ho
              have t6 : a.tmps.getD 6 undef = P := hG.old 6 (by decide)
              have t108 : a.tmps.getD 108 undef = .bool false := hG.dep 47 (by decide) 108 rfl
              exact op_value_g (w1 := W) ho1 (wanted_yes rfl rfl t108) (P) (by simp [go_sem, Act.eval, -Array.getD_eq_getD_getElem?, t6, t108]) (Gr.refl _) rfl
            | 49 =>
              have ho1 := ho
              cases ho
              have t2 : a.tmps.getD 2 undef = .pointer (some ⟨w.heap.size, 0, none⟩) := hG.old 2 (by decide)
              have t108 : a.tmps.getD 108 undef = .bool false := hG.dep 47 (by decide) 108 rfl
              exact op_value_g (w1 := W) ho1 (wanted_yes rfl rfl t108) (.pointer (some ⟨w.heap.size, 1, none⟩)) (by simp [go_sem, Act.eval, -Array.getD_eq_getD_getElem?, t2, t108]) (Gr.refl _) rfl
            | 50 =>
              have ho1 := ho
              cases ho
              have t110 : a.tmps.getD 110 undef = .pointer (some ⟨w.heap.size, 1, none⟩) := hG.dep 49 (by decide) 110 rfl
              have t108 : a.tmps.getD 108 undef = .bool false := hG.dep 47 (by decide) 108 rfl
              have q1 := (hbW.cell (p := ⟨w.heap.size, 1, none⟩) hk9).trans k91
              have q2 := (hbW.cell (p := ⟨w.heap.size, 2, none⟩) hk9).trans k92
              have q3 := (hbW.cell (p := ⟨w.heap.size, 3, none⟩) hk9).trans k93
              have q4 := (hbW.cell (p := ⟨w.heap.size, 4, none⟩) hk9).trans k94
              have q5 := (hbW.cell (p := ⟨w.heap.size, 5, none⟩) hk9).trans k95
              have q6 := (hbW.cell (p := ⟨w.heap.size, 6, none⟩) hk9).trans k96
              have q7 := (hbW.cell (p := ⟨w.heap.size, 7, none⟩) hk9).trans k97
              have p0 := (hbW.cell (p := ⟨X, 0, none⟩) hx9).trans x90
              have p1 := (hbW.cell (p := ⟨X, 1, none⟩) hx9).trans x91
              have p2 := (hbW.cell (p := ⟨X, 2, none⟩) hx9).trans x92
              have p3 := (hbW.cell (p := ⟨X, 3, none⟩) hx9).trans x93
              have p4 := (hbW.cell (p := ⟨X, 4, none⟩) hx9).trans x94
              have p5 := (hbW.cell (p := ⟨X, 5, none⟩) hx9).trans x95
              have p6 := (hbW.cell (p := ⟨X, 6, none⟩) hx9).trans x96
              exact op_value_g (w1 := W) ho1 (wanted_yes rfl rfl t108) (.string k.name) (by simp [go_sem, Act.eval, -Array.getD_eq_getD_getElem?, t110, t108, q1, q2, q3, q4, q5, q6, q7, p0, p1, p2, p3, p4, p5, p6]) (Gr.refl _) rfl
            | 51 =>
              have ho1 := ho
              cases ho
              have t2 : a.tmps.getD 2 undef = .pointer (some ⟨w.heap.size, 0, none⟩) := hG.old 2 (by decide)
              have t108 : a.tmps.getD 108 undef = .bool false := hG.dep 47 (by decide) 108 rfl
              exact op_value_g (w1 := W) ho1 (wanted_yes rfl rfl t108) (.pointer (some ⟨w.heap.size, 5, none⟩)) (by simp [go_sem, Act.eval, -Array.getD_eq_getD_getElem?, t2, t108]) (Gr.refl _) rfl
            | 52 =>
              have ho1 := ho
              cases ho
              have t112 : a.tmps.getD 112 undef = .pointer (some ⟨w.heap.size, 5, none⟩) := hG.dep 51 (by decide) 112 rfl
              have t108 : a.tmps.getD 108 undef = .bool false := hG.dep 47 (by decide) 108 rfl
              have q1 := (hbW.cell (p := ⟨w.heap.size, 1, none⟩) hk9).trans k91
              have q2 := (hbW.cell (p := ⟨w.heap.size, 2, none⟩) hk9).trans k92
              have q3 := (hbW.cell (p := ⟨w.heap.size, 3, none⟩) hk9).trans k93
              have q4 := (hbW.cell (p := ⟨w.heap.size, 4, none⟩) hk9).trans k94
              have q5 := (hbW.cell (p := ⟨w.heap.size, 5, none⟩) hk9).trans k95
              have q6 := (hbW.cell (p := ⟨w.heap.size, 6, none⟩) hk9).trans k96
              have q7 := (hbW.cell (p := ⟨w.heap.size, 7, none⟩) hk9).trans k97
              have p0 := (hbW.cell (p := ⟨X, 0, none⟩) hx9).trans x90
              have p1 := (hbW.cell (p := ⟨X, 1, none⟩) hx9).trans x91
              have p2 := (hbW.cell (p := ⟨X, 2, none⟩) hx9).trans x92
              have p3 := (hbW.cell (p := ⟨X, 3, none⟩) hx9).trans x93
              have p4 := (hbW.cell (p := ⟨X, 4, none⟩) hx9).trans x94
              have p5 := (hbW.cell (p := ⟨X, 5, none⟩) hx9).trans x95
              have p6 := (hbW.cell (p := ⟨X, 6, none⟩) hx9).trans x96
              exact op_value_g (w1 := W) ho1 (wanted_yes rfl rfl t108) (.int .i64 k.member) (by simp [go_sem, Act.eval, -Array.getD_eq_getD_getElem?, t112, t108, q1, q2, q3, q4, q5, q6, q7, p0, p1, p2, p3, p4, p5, p6]) (Gr.refl _) rfl
            | 53 =>
              have ho1 := ho
              cases ho
              have t109 : a.tmps.getD 109 undef = P := hG.dep 48 (by decide) 109 rfl
              have t111 : a.tmps.getD 111 undef = .string k.name := hG.dep 50 (by decide) 111 rfl
              have t113 : a.tmps.getD 113 undef = .int .i64 k.member := hG.dep 52 (by decide) 113 rfl
              have t108 : a.tmps.getD 108 undef = .bool false := hG.dep 47 (by decide) 108 rfl
              refine op_call_g ho1 (wanted_yes rfl rfl t108) 45 #[P, .string k.name, .int .i64 k.member] (by simp [go_sem, Act.eval, -Array.getD_eq_getD_getElem?, t109, t111, t113, t108]) ?_
              refine (leave_err rfl ((D9.it.below hbW).find _) _).mono ?_
              rintro e W' ⟨rfl, hb'⟩
              exact ⟨_, rfl, hb', rfl⟩
            | 54 =>
              have ho1 := ho
              cases ho
              have t114 : a.tmps.getD 114 undef = .int .i64 6 := hG.dep 53 (by decide) 114 rfl
              have t108 : a.tmps.getD 108 undef = .bool false := hG.dep 47 (by decide) 108 rfl
              exact op_value_g (w1 := W) ho1 (wanted_yes rfl rfl t108) (.bool false) (by simp [go_sem, Act.eval, -Array.getD_eq_getD_getElem?, t114, t108]) (Gr.refl _) rfl
            | 55 =>
              have ho1 := ho
              cases ho
              have t108 : a.tmps.getD 108 undef = .bool false := hG.dep 47 (by decide) 108 rfl
              have t115 : a.tmps.getD 115 undef = .bool false := hG.dep 54 (by decide) 115 rfl
              exact op_value_g (w1 := W) ho1 (wanted_none rfl) (.bool false) (by simp [go_sem, Act.eval, -Array.getD_eq_getD_getElem?, t108, t115]) (Gr.refl _) rfl
            | 56 =>
              have ho1 := ho
              cases ho
              have t116 : a.tmps.getD 116 undef = .bool false := hG.dep 55 (by decide) 116 rfl
              exact op_value_g (w1 := W) ho1 (wanted_none rfl) (.bool false) (by simp [go_sem, Act.eval, -Array.getD_eq_getD_getElem?, t116]) (Gr.refl _) rfl
            | 57 =>
              have ho1 := ho
              cases ho
              have t6 : a.tmps.getD 6 undef = P := hG.old 6 (by decide)
              have t117 : a.tmps.getD 117 undef = .bool false := hG.dep 56 (by decide) 117 rfl
              exact op_value_g (w1 := W) ho1 (wanted_yes rfl rfl t117) (P) (by simp [go_sem, Act.eval, -Array.getD_eq_getD_getElem?, t6, t117]) (Gr.refl _) rfl
            | 58 =>
              have ho1 := ho
              cases ho
              have t2 : a.tmps.getD 2 undef = .pointer (some ⟨w.heap.size, 0, none⟩) := hG.old 2 (by decide)
              have t117 : a.tmps.getD 117 undef = .bool false := hG.dep 56 (by decide) 117 rfl
              exact op_value_g (w1 := W) ho1 (wanted_yes rfl rfl t117) (.pointer (some ⟨w.heap.size, 1, none⟩)) (by simp [go_sem, Act.eval, -Array.getD_eq_getD_getElem?, t2, t117]) (Gr.refl _) rfl
            | 59 =>
              have ho1 := ho
              cases ho
              have t119 : a.tmps.getD 119 undef = .pointer (some ⟨w.heap.size, 1, none⟩) := hG.dep 58 (by decide) 119 rfl
              have t117 : a.tmps.getD 117 undef = .bool false := hG.dep 56 (by decide) 117 rfl
              have q1 := (hbW.cell (p := ⟨w.heap.size, 1, none⟩) hk9).trans k91
              have q2 := (hbW.cell (p := ⟨w.heap.size, 2, none⟩) hk9).trans k92
              have q3 := (hbW.cell (p := ⟨w.heap.size, 3, none⟩) hk9).trans k93
              have q4 := (hbW.cell (p := ⟨w.heap.size, 4, none⟩) hk9).trans k94
              have q5 := (hbW.cell (p := ⟨w.heap.size, 5, none⟩) hk9).trans k95
              have q6 := (hbW.cell (p := ⟨w.heap.size, 6, none⟩) hk9).trans k96
              have q7 := (hbW.cell (p := ⟨w.heap.size, 7, none⟩) hk9).trans k97
              have p0 := (hbW.cell (p := ⟨X, 0, none⟩) hx9).trans x90
              have p1 := (hbW.cell (p := ⟨X, 1, none⟩) hx9).trans x91
              have p2 := (hbW.cell (p := ⟨X, 2, none⟩) hx9).trans x92
              have p3 := (hbW.cell (p := ⟨X, 3, none⟩) hx9).trans x93
              have p4 := (hbW.cell (p := ⟨X, 4, none⟩) hx9).trans x94
              have p5 := (hbW.cell (p := ⟨X, 5, none⟩) hx9).trans x95
              have p6 := (hbW.cell (p := ⟨X, 6, none⟩) hx9).trans x96
              exact op_value_g (w1 := W) ho1 (wanted_yes rfl rfl t117) (.string k.name) (by simp [go_sem, Act.eval, -Array.getD_eq_getD_getElem?, t119, t117, q1, q2, q3, q4, q5, q6, q7, p0, p1, p2, p3, p4, p5, p6]) (Gr.refl _) rfl
            | 60 =>
              have ho1 := ho
              cases ho
              have t2 : a.tmps.getD 2 undef = .pointer (some ⟨w.heap.size, 0, none⟩) := hG.old 2 (by decide)
              have t117 : a.tmps.getD 117 undef = .bool false := hG.dep 56 (by decide) 117 rfl
              exact op_value_g (w1 := W) ho1 (wanted_yes rfl rfl t117) (.pointer (some ⟨w.heap.size, 5, none⟩)) (by simp [go_sem, Act.eval, -Array.getD_eq_getD_getElem?, t2, t117]) (Gr.refl _) rfl
            | 61 =>
              have ho1 := ho
              cases ho
              have t121 : a.tmps.getD 121 undef = .pointer (some ⟨w.heap.size, 5, none⟩) := hG.dep 60 (by decide) 121 rfl
              have t117 : a.tmps.getD 117 undef = .bool false := hG.dep 56 (by decide) 117 rfl
              have q1 := (hbW.cell (p := ⟨w.heap.size, 1, none⟩) hk9).trans k91
              have q2 := (hbW.cell (p := ⟨w.heap.size, 2, none⟩) hk9).trans k92
              have q3 := (hbW.cell (p := ⟨w.heap.size, 3, none⟩) hk9).trans k93
              have q4 := (hbW.cell (p := ⟨w.heap.size, 4, none⟩) hk9).trans k94
              have q5 := (hbW.cell (p := ⟨w.heap.size, 5, none⟩) hk9).trans k95
              have q6 := (hbW.cell (p := ⟨w.heap.size, 6, none⟩) hk9).trans k96
              have q7 := (hbW.cell (p := ⟨w.heap.size, 7, none⟩) hk9).trans k97
              have p0 := (hbW.cell (p := ⟨X, 0, none⟩) hx9).trans x90
              have p1 := (hbW.cell (p := ⟨X, 1, none⟩) hx9).trans x91
              have p2 := (hbW.cell (p := ⟨X, 2, none⟩) hx9).trans x92
              have p3 := (hbW.cell (p := ⟨X, 3, none⟩) hx9).trans x93
              have p4 := (hbW.cell (p := ⟨X, 4, none⟩) hx9).trans x94
              have p5 := (hbW.cell (p := ⟨X, 5, none⟩) hx9).trans x95
              have p6 := (hbW.cell (p := ⟨X, 6, none⟩) hx9).trans x96
              exact op_value_g (w1 := W) ho1 (wanted_yes rfl rfl t117) (.int .i64 k.member) (by simp [go_sem, Act.eval, -Array.getD_eq_getD_getElem?, t121, t117, q1, q2, q3, q4, q5, q6, q7, p0, p1, p2, p3, p4, p5, p6]) (Gr.refl _) rfl
            | 62 =>
              have ho1 := ho
              cases ho
              have t2 : a.tmps.getD 2 undef = .pointer (some ⟨w.heap.size, 0, none⟩) := hG.old 2 (by decide)
              have t117 : a.tmps.getD 117 undef = .bool false := hG.dep 56 (by decide) 117 rfl
              exact op_value_g (w1 := W) ho1 (wanted_yes rfl rfl t117) (.pointer (some ⟨w.heap.size, 6, none⟩)) (by simp [go_sem, Act.eval, -Array.getD_eq_getD_getElem?, t2, t117]) (Gr.refl _) rfl
            | 63 =>
              have ho1 := ho
              cases ho
              have t123 : a.tmps.getD 123 undef = .pointer (some ⟨w.heap.size, 6, none⟩) := hG.dep 62 (by decide) 123 rfl
              have t117 : a.tmps.getD 117 undef = .bool false := hG.dep 56 (by decide) 117 rfl
              have q1 := (hbW.cell (p := ⟨w.heap.size, 1, none⟩) hk9).trans k91
              have q2 := (hbW.cell (p := ⟨w.heap.size, 2, none⟩) hk9).trans k92
              have q3 := (hbW.cell (p := ⟨w.heap.size, 3, none⟩) hk9).trans k93
              have q4 := (hbW.cell (p := ⟨w.heap.size, 4, none⟩) hk9).trans k94
              have q5 := (hbW.cell (p := ⟨w.heap.size, 5, none⟩) hk9).trans k95
              have q6 := (hbW.cell (p := ⟨w.heap.size, 6, none⟩) hk9).trans k96
              have q7 := (hbW.cell (p := ⟨w.heap.size, 7, none⟩) hk9).trans k97
              have p0 := (hbW.cell (p := ⟨X, 0, none⟩) hx9).trans x90
              have p1 := (hbW.cell (p := ⟨X, 1, none⟩) hx9).trans x91
              have p2 := (hbW.cell (p := ⟨X, 2, none⟩) hx9).trans x92
              have p3 := (hbW.cell (p := ⟨X, 3, none⟩) hx9).trans x93
              have p4 := (hbW.cell (p := ⟨X, 4, none⟩) hx9).trans x94
              have p5 := (hbW.cell (p := ⟨X, 5, none⟩) hx9).trans x95
              have p6 := (hbW.cell (p := ⟨X, 6, none⟩) hx9).trans x96
              exact op_value_g (w1 := W) ho1 (wanted_yes rfl rfl t117) (.int .i64 k.term) (by simp [go_sem, Act.eval, -Array.getD_eq_getD_getElem?, t123, t117, q1, q2, q3, q4, q5, q6, q7, p0, p1, p2, p3, p4, p5, p6]) (Gr.refl _) rfl
            | 64 =>
              have ho1 := ho
              cases ho
              have t2 : a.tmps.getD 2 undef = .pointer (some ⟨w.heap.size, 0, none⟩) := hG.old 2 (by decide)
              have t117 : a.tmps.getD 117 undef = .bool false := hG.dep 56 (by decide) 117 rfl
              exact op_value_g (w1 := W) ho1 (wanted_yes rfl rfl t117) (.pointer (some ⟨w.heap.size, 7, none⟩)) (by simp [go_sem, Act.eval, -Array.getD_eq_getD_getElem?, t2, t117]) (Gr.refl _) rfl
            | 65 =>
              have ho1 := ho
              cases ho
              have t125 : a.tmps.getD 125 undef = .pointer (some ⟨w.heap.size, 7, none⟩) := hG.dep 64 (by decide) 125 rfl
              have t117 : a.tmps.getD 117 undef = .bool false := hG.dep 56 (by decide) 117 rfl
              have q1 := (hbW.cell (p := ⟨w.heap.size, 1, none⟩) hk9).trans k91
              have q2 := (hbW.cell (p := ⟨w.heap.size, 2, none⟩) hk9).trans k92
              have q3 := (hbW.cell (p := ⟨w.heap.size, 3, none⟩) hk9).trans k93
              have q4 := (hbW.cell (p := ⟨w.heap.size, 4, none⟩) hk9).trans k94
              have q5 := (hbW.cell (p := ⟨w.heap.size, 5, none⟩) hk9).trans k95
              have q6 := (hbW.cell (p := ⟨w.heap.size, 6, none⟩) hk9).trans k96
              have q7 := (hbW.cell (p := ⟨w.heap.size, 7, none⟩) hk9).trans k97
              have p0 := (hbW.cell (p := ⟨X, 0, none⟩) hx9).trans x90
              have p1 := (hbW.cell (p := ⟨X, 1, none⟩) hx9).trans x91
              have p2 := (hbW.cell (p := ⟨X, 2, none⟩) hx9).trans x92
              have p3 := (hbW.cell (p := ⟨X, 3, none⟩) hx9).trans x93
              have p4 := (hbW.cell (p := ⟨X, 4, none⟩) hx9).trans x94
              have p5 := (hbW.cell (p := ⟨X, 5, none⟩) hx9).trans x95
              have p6 := (hbW.cell (p := ⟨X, 6, none⟩) hx9).trans x96
              exact op_value_g (w1 := W) ho1 (wanted_yes rfl rfl t117) (.int .i64 k.part) (by simp [go_sem, Act.eval, -Array.getD_eq_getD_getElem?, t125, t117, q1, q2, q3, q4, q5, q6, q7, p0, p1, p2, p3, p4, p5, p6]) (Gr.refl _) rfl
            | 66 =>
              have ho1 := ho
              cases ho
              have t2 : a.tmps.getD 2 undef = .pointer (some ⟨w.heap.size, 0, none⟩) := hG.old 2 (by decide)
              have t117 : a.tmps.getD 117 undef = .bool false := hG.dep 56 (by decide) 117 rfl
              exact op_value_g (w1 := W) ho1 (wanted_yes rfl rfl t117) (.pointer (some ⟨w.heap.size, 4, none⟩)) (by simp [go_sem, Act.eval, -Array.getD_eq_getD_getElem?, t2, t117]) (Gr.refl _) rfl
            | 67 =>
              have ho1 := ho
              cases ho
              have t127 : a.tmps.getD 127 undef = .pointer (some ⟨w.heap.size, 4, none⟩) := hG.dep 66 (by decide) 127 rfl
              have t117 : a.tmps.getD 117 undef = .bool false := hG.dep 56 (by decide) 117 rfl
              have q1 := (hbW.cell (p := ⟨w.heap.size, 1, none⟩) hk9).trans k91
              have q2 := (hbW.cell (p := ⟨w.heap.size, 2, none⟩) hk9).trans k92
              have q3 := (hbW.cell (p := ⟨w.heap.size, 3, none⟩) hk9).trans k93
              have q4 := (hbW.cell (p := ⟨w.heap.size, 4, none⟩) hk9).trans k94
              have q5 := (hbW.cell (p := ⟨w.heap.size, 5, none⟩) hk9).trans k95
              have q6 := (hbW.cell (p := ⟨w.heap.size, 6, none⟩) hk9).trans k96
              have q7 := (hbW.cell (p := ⟨w.heap.size, 7, none⟩) hk9).trans k97
              have p0 := (hbW.cell (p := ⟨X, 0, none⟩) hx9).trans x90
              have p1 := (hbW.cell (p := ⟨X, 1, none⟩) hx9).trans x91
              have p2 := (hbW.cell (p := ⟨X, 2, none⟩) hx9).trans x92
              have p3 := (hbW.cell (p := ⟨X, 3, none⟩) hx9).trans x93
              have p4 := (hbW.cell (p := ⟨X, 4, none⟩) hx9).trans x94
              have p5 := (hbW.cell (p := ⟨X, 5, none⟩) hx9).trans x95
              have p6 := (hbW.cell (p := ⟨X, 6, none⟩) hx9).trans x96
              exact op_value_g (w1 := W) ho1 (wanted_yes rfl rfl t117) (.int .i64 k.att) (by simp [go_sem, Act.eval, -Array.getD_eq_getD_getElem?, t127, t117, q1, q2, q3, q4, q5, q6, q7, p0, p1, p2, p3, p4, p5, p6]) (Gr.refl _) rfl
            | 68 =>
              have ho1 := ho
              cases ho
              have t118 : a.tmps.getD 118 undef = P := hG.dep 57 (by decide) 118 rfl
              have t120 : a.tmps.getD 120 undef = .string k.name := hG.dep 59 (by decide) 120 rfl
              have t122 : a.tmps.getD 122 undef = .int .i64 k.member := hG.dep 61 (by decide) 122 rfl
              have t124 : a.tmps.getD 124 undef = .int .i64 k.term := hG.dep 63 (by decide) 124 rfl
              have t126 : a.tmps.getD 126 undef = .int .i64 k.part := hG.dep 65 (by decide) 126 rfl
              have t128 : a.tmps.getD 128 undef = .int .i64 k.att := hG.dep 67 (by decide) 128 rfl
              have t117 : a.tmps.getD 117 undef = .bool false := hG.dep 56 (by decide) 117 rfl
              refine op_call_g ho1 (wanted_yes rfl rfl t117) 46 #[P, .string k.name, .int .i64 k.member, .int .i64 k.term, .int .i64 k.part, .int .i64 k.att] (by simp [go_sem, Act.eval, -Array.getD_eq_getD_getElem?, t118, t120, t122, t124, t126, t128, t117]) ?_
              refine (commit_dead rfl ((D9.it.below hbW).find _) _ _ _ _).mono ?_
              rintro e W' ⟨rfl, hb'⟩
              exact ⟨_, rfl, hb', rfl⟩
            | 69 =>
              have ho1 := ho
              cases ho
              have t129 : a.tmps.getD 129 undef = .int .i64 6 := hG.dep 68 (by decide) 129 rfl
              have t117 : a.tmps.getD 117 undef = .bool false := hG.dep 56 (by decide) 117 rfl
              exact op_value_g (w1 := W) ho1 (wanted_yes rfl rfl t117) (.bool false) (by simp [go_sem, Act.eval, -Array.getD_eq_getD_getElem?, t129, t117]) (Gr.refl _) rfl
            | 70 =>
              have ho1 := ho
              cases ho
              have t117 : a.tmps.getD 117 undef = .bool false := hG.dep 56 (by decide) 117 rfl
              have t130 : a.tmps.getD 130 undef = .bool false := hG.dep 69 (by decide) 130 rfl
              exact op_value_g (w1 := W) ho1 (wanted_none rfl) (.bool false) (by simp [go_sem, Act.eval, -Array.getD_eq_getD_getElem?, t117, t130]) (Gr.refl _) rfl
            | 71 =>
              have ho1 := ho
              cases ho
              have t131 : a.tmps.getD 131 undef = .bool false := hG.dep 70 (by decide) 131 rfl
              exact op_value_g (w1 := W) ho1 (wanted_none rfl) (.bool false) (by simp [go_sem, Act.eval, -Array.getD_eq_getD_getElem?, t131]) (Gr.refl _) rfl
            | 72 =>
              have ho1 := ho
              cases ho
              have t6 : a.tmps.getD 6 undef = P := hG.old 6 (by decide)
              have t132 : a.tmps.getD 132 undef = .bool false := hG.dep 71 (by decide) 132 rfl
              exact op_value_g (w1 := W) ho1 (wanted_yes rfl rfl t132) (P) (by simp [go_sem, Act.eval, -Array.getD_eq_getD_getElem?, t6, t132]) (Gr.refl _) rfl
            | 73 =>
              have ho1 := ho
              cases ho
              have t1 : a.tmps.getD 1 undef = .slice A n c := hG.old 1 (by decide)
              have t132 : a.tmps.getD 132 undef = .bool false := hG.dep 71 (by decide) 132 rfl
              exact op_value_g (w1 := W) ho1 (wanted_yes rfl rfl t132) (.slice A n c) (by simp [go_sem, Act.eval, -Array.getD_eq_getD_getElem?, t1, t132]) (Gr.refl _) rfl
            | 74 =>
              have ho1 := ho
              cases ho
              have t133 : a.tmps.getD 133 undef = P := hG.dep 72 (by decide) 133 rfl
              have t134 : a.tmps.getD 134 undef = .slice A n c := hG.dep 73 (by decide) 134 rfl
              have t132 : a.tmps.getD 132 undef = .bool false := hG.dep 71 (by decide) 132 rfl
              refine op_call_g ho1 (wanted_yes rfl rfl t132) 47 #[P, .slice A n c] (by simp [go_sem, Act.eval, -Array.getD_eq_getD_getElem?, t133, t134, t132]) ?_
              refine (put_dead (D9.it.below hbW) A n c).mono ?_
              rintro e W' ⟨rfl, rfl⟩
              exact ⟨_, rfl, Gr.refl _, rfl⟩
            | 75 =>
              have ho1 := ho
              cases ho
              have t135 : a.tmps.getD 135 undef = .slice A n c := hG.dep 74 (by decide) 135 rfl
              have t132 : a.tmps.getD 132 undef = .bool false := hG.dep 71 (by decide) 132 rfl
              have hcv := (HB9.it.below hbW).conv c
              exact op_value_g (w1 := W) ho1 (wanted_yes rfl rfl t132) (.string ⟨bs.toArray⟩) (by simp [go_sem, Act.eval, -Array.getD_eq_getD_getElem?, hcv, t135, t132]) (Gr.refl _) rfl
            | 76 =>
              have ho1 := ho
              cases ho
              have t1 : a.tmps.getD 1 undef = .slice A n c := hG.old 1 (by decide)
              have t132 : a.tmps.getD 132 undef = .bool false := hG.dep 71 (by decide) 132 rfl
              exact op_value_g (w1 := W) ho1 (wanted_yes rfl rfl t132) (.slice A n c) (by simp [go_sem, Act.eval, -Array.getD_eq_getD_getElem?, t1, t132]) (Gr.refl _) rfl
            | 77 =>
              have ho1 := ho
              cases ho
              have t137 : a.tmps.getD 137 undef = .slice A n c := hG.dep 76 (by decide) 137 rfl
              have t132 : a.tmps.getD 132 undef = .bool false := hG.dep 71 (by decide) 132 rfl
              have hcv := (HB9.it.below hbW).conv c
              exact op_value_g (w1 := W) ho1 (wanted_yes rfl rfl t132) (.string ⟨bs.toArray⟩) (by simp [go_sem, Act.eval, -Array.getD_eq_getD_getElem?, hcv, t137, t132]) (Gr.refl _) rfl
            | 78 =>
              have ho1 := ho
              cases ho
              have t136 : a.tmps.getD 136 undef = .string ⟨bs.toArray⟩ := hG.dep 75 (by decide) 136 rfl
              have t138 : a.tmps.getD 138 undef = .string ⟨bs.toArray⟩ := hG.dep 77 (by decide) 138 rfl
              have t132 : a.tmps.getD 132 undef = .bool false := hG.dep 71 (by decide) 132 rfl
              exact op_value_g (w1 := W) ho1 (wanted_yes rfl rfl t132) (.bool false) (by simp [go_sem, Act.eval, -Array.getD_eq_getD_getElem?, t136, t138, t132]) (Gr.refl _) rfl
            | 79 =>
              have ho1 := ho
              cases ho
              have t132 : a.tmps.getD 132 undef = .bool false := hG.dep 71 (by decide) 132 rfl
              have t139 : a.tmps.getD 139 undef = .bool false := hG.dep 78 (by decide) 139 rfl
              exact op_value_g (w1 := W) ho1 (wanted_none rfl) (.bool false) (by simp [go_sem, Act.eval, -Array.getD_eq_getD_getElem?, t132, t139]) (Gr.refl _) rfl
            | q + 80 => cases ho
          · intro a W hbW hD
            have hfr := hD.frame [61, 62, 63, 64, 65, 66, 67, 68, 69, 70, 71, 72, 73, 74, 75, 76, 77, 78, 79, 80, 81, 82, 83, 84, 85, 86, 87, 88, 89, 90, 91, 92, 93, 94, 95, 96, 97, 98, 99, 100, 101, 102, 103, 104, 105, 106, 107, 108, 109, 110, 111, 112, 113, 114, 115, 116, 117, 118, 119, 120, 121, 122, 123, 124, 125, 126, 127, 128, 129, 130, 131, 132, 133, 134, 135, 136, 137, 138, 139, 140] (by kernel_rfl)
            have t61 : a.tmps.getD 61 undef = .agg #[.string ⟨#[]⟩, .int .i64 0, .int .i64 0, .int .i64 0, .slice none 0 0, .slice none 0 0, .slice none 0 0] := hD.sp 0 (by decide) 61 rfl
            have t63 : a.tmps.getD 63 undef = .agg #[.string ⟨#[]⟩, .int .i64 0, .int .i64 0, .int .i64 0, .slice none 0 0, .slice none 0 0, .slice none 0 0] := hD.sp 2 (by decide) 63 rfl
            have t65 : a.tmps.getD 65 undef = .bool true := hD.sp 4 (by decide) 65 rfl
            have t66 : a.tmps.getD 66 undef = .bool false := hD.sp 5 (by decide) 66 rfl
            have t67 : a.tmps.getD 67 undef = .bool false := hD.sp 6 (by decide) 67 rfl
            have t68 : a.tmps.getD 68 undef = .int .i64 0 := hD.sp 7 (by decide) 68 rfl
            have t69 : a.tmps.getD 69 undef = .int .i64 0 := hD.sp 8 (by decide) 69 rfl
            have t70 : a.tmps.getD 70 undef = .int .i64 0 := hD.sp 9 (by decide) 70 rfl
            have t71 : a.tmps.getD 71 undef = .int .i64 0 := hD.sp 10 (by decide) 71 rfl
            have t72 : a.tmps.getD 72 undef = .int .i64 0 := hD.sp 11 (by decide) 72 rfl
            have t73 : a.tmps.getD 73 undef = P := hD.sp 12 (by decide) 73 rfl
            have t74 : a.tmps.getD 74 undef = .slice none 0 0 := hD.sp 13 (by decide) 74 rfl
            have t75 : a.tmps.getD 75 undef = .int .i64 0 := hD.sp 14 (by decide) 75 rfl
            have t76 : a.tmps.getD 76 undef = .int .i64 0 := hD.sp 15 (by decide) 76 rfl
            have t77 : a.tmps.getD 77 undef = .bool false := hD.sp 16 (by decide) 77 rfl
            have t78 : a.tmps.getD 78 undef = .bool false := hD.sp 17 (by decide) 78 rfl
            have t79 : a.tmps.getD 79 undef = .bool false := hD.sp 18 (by decide) 79 rfl
            have t80 : a.tmps.getD 80 undef = .int .i64 6 := hD.sp 19 (by decide) 80 rfl
            have t81 : a.tmps.getD 81 undef = .bool false := hD.sp 20 (by decide) 81 rfl
            have t82 : a.tmps.getD 82 undef = .bool false := hD.sp 21 (by decide) 82 rfl
            have t83 : a.tmps.getD 83 undef = .bool false := hD.sp 22 (by decide) 83 rfl
            have t84 : a.tmps.getD 84 undef = .int .i64 6 := hD.sp 23 (by decide) 84 rfl
            have t85 : a.tmps.getD 85 undef = .bool false := hD.sp 24 (by decide) 85 rfl
            have t86 : a.tmps.getD 86 undef = .bool false := hD.sp 25 (by decide) 86 rfl
            have t87 : a.tmps.getD 87 undef = .bool false := hD.sp 26 (by decide) 87 rfl
            have t88 : a.tmps.getD 88 undef = .int .i64 6 := hD.sp 27 (by decide) 88 rfl
            have t89 : a.tmps.getD 89 undef = .bool false := hD.sp 28 (by decide) 89 rfl
            have t90 : a.tmps.getD 90 undef = .bool false := hD.sp 29 (by decide) 90 rfl
            have t91 : a.tmps.getD 91 undef = .bool false := hD.sp 30 (by decide) 91 rfl
            have t92 : a.tmps.getD 92 undef = .int .i64 6 := hD.sp 31 (by decide) 92 rfl
            have t93 : a.tmps.getD 93 undef = .bool false := hD.sp 32 (by decide) 93 rfl
            have t94 : a.tmps.getD 94 undef = .bool false := hD.sp 33 (by decide) 94 rfl
            have t95 : a.tmps.getD 95 undef = .bool false := hD.sp 34 (by decide) 95 rfl
            have t96 : a.tmps.getD 96 undef = P := hD.sp 35 (by decide) 96 rfl
            have t97 : a.tmps.getD 97 undef = .pointer (some ⟨w.heap.size, 1, none⟩) := hD.sp 36 (by decide) 97 rfl
            have t98 : a.tmps.getD 98 undef = .string k.name := hD.sp 37 (by decide) 98 rfl
            have t99 : a.tmps.getD 99 undef = .pointer (some ⟨w.heap.size, 2, none⟩) := hD.sp 38 (by decide) 99 rfl
            have t100 : a.tmps.getD 100 undef = .int .i64 k.parts := hD.sp 39 (by decide) 100 rfl
            have t101 : a.tmps.getD 101 undef = .pointer (some ⟨w.heap.size, 3, none⟩) := hD.sp 40 (by decide) 101 rfl
            have t102 : a.tmps.getD 102 undef = .int .i64 k.sub := hD.sp 41 (by decide) 102 rfl
            have t103 : a.tmps.getD 103 undef = .pointer (some ⟨w.heap.size, 4, none⟩) := hD.sp 42 (by decide) 103 rfl
            have t104 : a.tmps.getD 104 undef = .int .i64 k.att := hD.sp 43 (by decide) 104 rfl
            have t105 : a.tmps.getD 105 undef = .int .i64 6 := hD.sp 44 (by decide) 105 rfl
            have t106 : a.tmps.getD 106 undef = .bool false := hD.sp 45 (by decide) 106 rfl
            have t107 : a.tmps.getD 107 undef = .bool false := hD.sp 46 (by decide) 107 rfl
            have t108 : a.tmps.getD 108 undef = .bool false := hD.sp 47 (by decide) 108 rfl
            have t109 : a.tmps.getD 109 undef = P := hD.sp 48 (by decide) 109 rfl
            have t110 : a.tmps.getD 110 undef = .pointer (some ⟨w.heap.size, 1, none⟩) := hD.sp 49 (by decide) 110 rfl
            have t111 : a.tmps.getD 111 undef = .string k.name := hD.sp 50 (by decide) 111 rfl
            have t112 : a.tmps.getD 112 undef = .pointer (some ⟨w.heap.size, 5, none⟩) := hD.sp 51 (by decide) 112 rfl
            have t113 : a.tmps.getD 113 undef = .int .i64 k.member := hD.sp 52 (by decide) 113 rfl
            have t114 : a.tmps.getD 114 undef = .int .i64 6 := hD.sp 53 (by decide) 114 rfl
            have t115 : a.tmps.getD 115 undef = .bool false := hD.sp 54 (by decide) 115 rfl
            have t116 : a.tmps.getD 116 undef = .bool false := hD.sp 55 (by decide) 116 rfl
            have t117 : a.tmps.getD 117 undef = .bool false := hD.sp 56 (by decide) 117 rfl
            have t118 : a.tmps.getD 118 undef = P := hD.sp 57 (by decide) 118 rfl
            have t119 : a.tmps.getD 119 undef = .pointer (some ⟨w.heap.size, 1, none⟩) := hD.sp 58 (by decide) 119 rfl
            have t120 : a.tmps.getD 120 undef = .string k.name := hD.sp 59 (by decide) 120 rfl
            have t121 : a.tmps.getD 121 undef = .pointer (some ⟨w.heap.size, 5, none⟩) := hD.sp 60 (by decide) 121 rfl
            have t122 : a.tmps.getD 122 undef = .int .i64 k.member := hD.sp 61 (by decide) 122 rfl
            have t123 : a.tmps.getD 123 undef = .pointer (some ⟨w.heap.size, 6, none⟩) := hD.sp 62 (by decide) 123 rfl
            have t124 : a.tmps.getD 124 undef = .int .i64 k.term := hD.sp 63 (by decide) 124 rfl
            have t125 : a.tmps.getD 125 undef = .pointer (some ⟨w.heap.size, 7, none⟩) := hD.sp 64 (by decide) 125 rfl
            have t126 : a.tmps.getD 126 undef = .int .i64 k.part := hD.sp 65 (by decide) 126 rfl
            have t127 : a.tmps.getD 127 undef = .pointer (some ⟨w.heap.size, 4, none⟩) := hD.sp 66 (by decide) 127 rfl
            have t128 : a.tmps.getD 128 undef = .int .i64 k.att := hD.sp 67 (by decide) 128 rfl
            have t129 : a.tmps.getD 129 undef = .int .i64 6 := hD.sp 68 (by decide) 129 rfl
            have t130 : a.tmps.getD 130 undef = .bool false := hD.sp 69 (by decide) 130 rfl
            have t131 : a.tmps.getD 131 undef = .bool false := hD.sp 70 (by decide) 131 rfl
            have t132 : a.tmps.getD 132 undef = .bool false := hD.sp 71 (by decide) 132 rfl
            have t133 : a.tmps.getD 133 undef = P := hD.sp 72 (by decide) 133 rfl
            have t134 : a.tmps.getD 134 undef = .slice A n c := hD.sp 73 (by decide) 134 rfl
            have t135 : a.tmps.getD 135 undef = .slice A n c := hD.sp 74 (by decide) 135 rfl
            have t136 : a.tmps.getD 136 undef = .string ⟨bs.toArray⟩ := hD.sp 75 (by decide) 136 rfl
            have t137 : a.tmps.getD 137 undef = .slice A n c := hD.sp 76 (by decide) 137 rfl
            have t138 : a.tmps.getD 138 undef = .string ⟨bs.toArray⟩ := hD.sp 77 (by decide) 138 rfl
            have t139 : a.tmps.getD 139 undef = .bool false := hD.sp 78 (by decide) 139 rfl
            have t140 : a.tmps.getD 140 undef = .bool false := hD.sp 79 (by decide) 140 rfl
            simp only [List.foldl_cons, List.foldl_nil] at hfr
            rw [t61, t63, t65, t66, t67, t68, t69, t70, t71, t72, t73, t74, t75, t76, t77, t78, t79, t80, t81, t82, t83, t84, t85, t86, t87, t88, t89, t90, t91, t92, t93, t94, t95, t96, t97, t98, t99, t100, t101, t102, t103, t104, t105, t106, t107, t108, t109, t110, t111, t112, t113, t114, t115, t116, t117, t118, t119, t120, t121, t122, t123, t124, t125, t126, t127, t128, t129, t130, t131, t132, t133, t134, t135, t136, t137, t138, t139, t140] at hfr
            generalize a.tmps.getD 62 undef = u62 at hfr
            generalize a.tmps.getD 64 undef = u64 at hfr
            rw [hfr]
            clear hfr hD t61 t63 t65 t66 t67 t68 t69 t70 t71 t72 t73 t74 t75 t76 t77 t78 t79 t80 t81 t82 t83 t84 t85 t86 t87 t88 t89 t90 t91 t92 t93 t94 t95 t96 t97 t98 t99 t100 t101 t102 t103 t104 t105 t106 t107 t108 t109 t110 t111 t112 t113 t114 t115 t116 t117 t118 t119 t120 t121 t122 t123 t124 t125 t126 t127 t128 t129 t130 t131 t132 t133 t134 t135 t136 t137 t138 t139 t140
            have HBW := Kp.mk hbW
            clear hbW
            simp only [Act.put, List.setIfInBounds_toArray, List.set_cons_succ, List.set_cons_zero]
            go_wp2
            go_roundw
            case rel => exact ⟨j + 1, by omega, by go_num, ⟨HW.it.trans ((W5.it.trans (HBW.it.mono (by omega))).mono (by omega))⟩⟩
            case measure => simp [intOf]; omega
        · obtain rfl : j = 2 := by omega
          have hk9 : w.heap.size < wr.heap.size := by omega
          have k91 := blk_cell X9.it (show k.cells[1]? = some (.string k.name) from rfl)
          have k92 := blk_cell X9.it (show k.cells[2]? = some (.int .i64 k.parts) from rfl)
          have HF : Kp (Below w.heap.size w wr) := ⟨(B2.it.trans (Z3.it.mono (by omega))).trans (HW.it.mono (by omega))⟩
          go_wp2_with fail
          refine wp_region_sp [.ex (.pointer (some ⟨w.heap.size, 1, none⟩)), .ex (.string k.name), .ex (.pointer (some ⟨w.heap.size, 2, none⟩)), .ex (.int .i64 k.parts), .ex (.int .i64 (checkE k.name k.parts)), .ex (.pointer (some ⟨w.heap.size, 1, none⟩)), .ex (.string k.name), .ex (.pointer (some ⟨w.heap.size, 2, none⟩)), .ex (.int .i64 k.parts), .ex (.int .i64 (checkE k.name k.parts)), .ex (.bool true), .ex (.bool true), .ex (.bool true), .ex (.bool true), .ex (.bool true)] (by kernel_rfl) (by kernel_rfl) ?_ ?_
          · intro i o ho a W hbW hG
            match i with
            | 0 =>
              have ho1 := ho
              cases ho
              have t2 : a.tmps.getD 2 undef = .pointer (some ⟨w.heap.size, 0, none⟩) := hG.old 2 (by decide)
              exact op_value_g (w1 := W) ho1 (wanted_none rfl) (.pointer (some ⟨w.heap.size, 1, none⟩)) (by simp [go_sem, Act.eval, -Array.getD_eq_getD_getElem?, t2]) (Gr.refl _) rfl
            | 1 =>
              have ho1 := ho
              cases ho
              have t142 : a.tmps.getD 142 undef = .pointer (some ⟨w.heap.size, 1, none⟩) := hG.dep 0 (by decide) 142 rfl
              have q1 := (hbW.cell (p := ⟨w.heap.size, 1, none⟩) hk9).trans k91
              have q2 := (hbW.cell (p := ⟨w.heap.size, 2, none⟩) hk9).trans k92
              exact op_value_g (w1 := W) ho1 (wanted_none rfl) (.string k.name) (by simp [go_sem, Act.eval, -Array.getD_eq_getD_getElem?, t142, q1, q2]) (Gr.refl _) rfl
            | 2 =>
              have ho1 := ho
              cases ho
              have t2 : a.tmps.getD 2 undef = .pointer (some ⟨w.heap.size, 0, none⟩) := hG.old 2 (by decide)
              exact op_value_g (w1 := W) ho1 (wanted_none rfl) (.pointer (some ⟨w.heap.size, 2, none⟩)) (by simp [go_sem, Act.eval, -Array.getD_eq_getD_getElem?, t2]) (Gr.refl _) rfl
            | 3 =>
              have ho1 := ho
              cases ho
              have t144 : a.tmps.getD 144 undef = .pointer (some ⟨w.heap.size, 2, none⟩) := hG.dep 2 (by decide) 144 rfl
              have q1 := (hbW.cell (p := ⟨w.heap.size, 1, none⟩) hk9).trans k91
              have q2 := (hbW.cell (p := ⟨w.heap.size, 2, none⟩) hk9).trans k92
              exact op_value_g (w1 := W) ho1 (wanted_none rfl) (.int .i64 k.parts) (by simp [go_sem, Act.eval, -Array.getD_eq_getD_getElem?, t144, q1, q2]) (Gr.refl _) rfl
            | 4 =>
              have ho1 := ho
              cases ho
              have t143 : a.tmps.getD 143 undef = .string k.name := hG.dep 1 (by decide) 143 rfl
              have t145 : a.tmps.getD 145 undef = .int .i64 k.parts := hG.dep 3 (by decide) 145 rfl
              refine op_call_g ho1 (wanted_none rfl) 48 #[.string k.name, .int .i64 k.parts] (by simp [go_sem, Act.eval, -Array.getD_eq_getD_getElem?, t143, t145]) ?_
              refine (check_any k.name k.parts W).mono ?_
              rintro e W' ⟨rfl, hb'⟩
              exact ⟨_, rfl, hb', rfl⟩
            | 5 =>
              have ho1 := ho
              cases ho
              have t2 : a.tmps.getD 2 undef = .pointer (some ⟨w.heap.size, 0, none⟩) := hG.old 2 (by decide)
              exact op_value_g (w1 := W) ho1 (wanted_none rfl) (.pointer (some ⟨w.heap.size, 1, none⟩)) (by simp [go_sem, Act.eval, -Array.getD_eq_getD_getElem?, t2]) (Gr.refl _) rfl
            | 6 =>
              have ho1 := ho
              cases ho
              have t147 : a.tmps.getD 147 undef = .pointer (some ⟨w.heap.size, 1, none⟩) := hG.dep 5 (by decide) 147 rfl
              have q1 := (hbW.cell (p := ⟨w.heap.size, 1, none⟩) hk9).trans k91
              have q2 := (hbW.cell (p := ⟨w.heap.size, 2, none⟩) hk9).trans k92
              exact op_value_g (w1 := W) ho1 (wanted_none rfl) (.string k.name) (by simp [go_sem, Act.eval, -Array.getD_eq_getD_getElem?, t147, q1, q2]) (Gr.refl _) rfl
            | 7 =>
              have ho1 := ho
              cases ho
              have t2 : a.tmps.getD 2 undef = .pointer (some ⟨w.heap.size, 0, none⟩) := hG.old 2 (by decide)
              exact op_value_g (w1 := W) ho1 (wanted_none rfl) (.pointer (some ⟨w.heap.size, 2, none⟩)) (by simp [go_sem, Act.eval, -Array.getD_eq_getD_getElem?, t2]) (Gr.refl _) rfl
            | 8 =>
              have ho1 := ho
              cases ho
              have t149 : a.tmps.getD 149 undef = .pointer (some ⟨w.heap.size, 2, none⟩) := hG.dep 7 (by decide) 149 rfl
              have q1 := (hbW.cell (p := ⟨w.heap.size, 1, none⟩) hk9).trans k91
              have q2 := (hbW.cell (p := ⟨w.heap.size, 2, none⟩) hk9).trans k92
              exact op_value_g (w1 := W) ho1 (wanted_none rfl) (.int .i64 k.parts) (by simp [go_sem, Act.eval, -Array.getD_eq_getD_getElem?, t149, q1, q2]) (Gr.refl _) rfl
            | 9 =>
              have ho1 := ho
              cases ho
              have t148 : a.tmps.getD 148 undef = .string k.name := hG.dep 6 (by decide) 148 rfl
              have t150 : a.tmps.getD 150 undef = .int .i64 k.parts := hG.dep 8 (by decide) 150 rfl
              refine op_call_g ho1 (wanted_none rfl) 49 #[.string k.name, .int .i64 k.parts] (by simp [go_sem, Act.eval, -Array.getD_eq_getD_getElem?, t148, t150]) ?_
              refine (rcheck_any k.name k.parts W HK.it).mono ?_
              rintro e W' ⟨rfl, rfl⟩
              exact ⟨_, rfl, Gr.refl _, rfl⟩
            | 10 =>
              have ho1 := ho
              cases ho
              have t146 : a.tmps.getD 146 undef = .int .i64 (checkE k.name k.parts) := hG.dep 4 (by decide) 146 rfl
              have t151 : a.tmps.getD 151 undef = .int .i64 (checkE k.name k.parts) := hG.dep 9 (by decide) 151 rfl
              exact op_value_g (w1 := W) ho1 (wanted_none rfl) (.bool true) (by simp [go_sem, Act.eval, -Array.getD_eq_getD_getElem?, t146, t151]) (Gr.refl _) rfl
            | 11 =>
              have ho1 := ho
              cases ho
              have t152 : a.tmps.getD 152 undef = .bool true := hG.dep 10 (by decide) 152 rfl
              exact op_value_g (w1 := W) ho1 (wanted_none rfl) (.bool true) (by simp [go_sem, Act.eval, -Array.getD_eq_getD_getElem?, t152]) (Gr.refl _) rfl
            | 12 =>
              have ho1 := ho
              cases ho
              have t153 : a.tmps.getD 153 undef = .bool true := hG.dep 11 (by decide) 153 rfl
              refine op_call_g ho1 (wanted_yes rfl rfl t153) 13 #[] (by simp [go_sem, Act.eval, -Array.getD_eq_getD_getElem?]) ?_
              refine (awake_any W).mono ?_
              rintro e W' ⟨rfl, hb'⟩
              exact ⟨_, rfl, hb', rfl⟩
            | 13 =>
              have ho1 := ho
              cases ho
              have t153 : a.tmps.getD 153 undef = .bool true := hG.dep 11 (by decide) 153 rfl
              have t154 : a.tmps.getD 154 undef = .bool true := hG.dep 12 (by decide) 154 rfl
              exact op_value_g (w1 := W) ho1 (wanted_none rfl) (.bool true) (by simp [go_sem, Act.eval, -Array.getD_eq_getD_getElem?, t153, t154]) (Gr.refl _) rfl
            | 14 =>
              have ho1 := ho
              cases ho
              have t155 : a.tmps.getD 155 undef = .bool true := hG.dep 13 (by decide) 155 rfl
              exact op_value_g (w1 := W) ho1 (wanted_none rfl) (.bool true) (by simp [go_sem, Act.eval, -Array.getD_eq_getD_getElem?, t155]) (Gr.refl _) rfl
            | q + 15 => cases ho
          · intro a W hbW hD
            have hfr := hD.frame [142, 143, 144, 145, 146, 147, 148, 149, 150, 151, 152, 153, 154, 155, 4] (by kernel_rfl)
            have t142 : a.tmps.getD 142 undef = .pointer (some ⟨w.heap.size, 1, none⟩) := hD.sp 0 (by decide) 142 rfl
            have t143 : a.tmps.getD 143 undef = .string k.name := hD.sp 1 (by decide) 143 rfl
            have t144 : a.tmps.getD 144 undef = .pointer (some ⟨w.heap.size, 2, none⟩) := hD.sp 2 (by decide) 144 rfl
            have t145 : a.tmps.getD 145 undef = .int .i64 k.parts := hD.sp 3 (by decide) 145 rfl
            have t146 : a.tmps.getD 146 undef = .int .i64 (checkE k.name k.parts) := hD.sp 4 (by decide) 146 rfl
            have t147 : a.tmps.getD 147 undef = .pointer (some ⟨w.heap.size, 1, none⟩) := hD.sp 5 (by decide) 147 rfl
            have t148 : a.tmps.getD 148 undef = .string k.name := hD.sp 6 (by decide) 148 rfl
            have t149 : a.tmps.getD 149 undef = .pointer (some ⟨w.heap.size, 2, none⟩) := hD.sp 7 (by decide) 149 rfl
            have t150 : a.tmps.getD 150 undef = .int .i64 k.parts := hD.sp 8 (by decide) 150 rfl
            have t151 : a.tmps.getD 151 undef = .int .i64 (checkE k.name k.parts) := hD.sp 9 (by decide) 151 rfl
            have t152 : a.tmps.getD 152 undef = .bool true := hD.sp 10 (by decide) 152 rfl
            have t153 : a.tmps.getD 153 undef = .bool true := hD.sp 11 (by decide) 153 rfl
            have t154 : a.tmps.getD 154 undef = .bool true := hD.sp 12 (by decide) 154 rfl
            have t155 : a.tmps.getD 155 undef = .bool true := hD.sp 13 (by decide) 155 rfl
            have t4 : a.tmps.getD 4 undef = .bool true := hD.sp 14 (by decide) 4 rfl
            simp only [List.foldl_cons, List.foldl_nil] at hfr
            rw [t142, t143, t144, t145, t146, t147, t148, t149, t150, t151, t152, t153, t154, t155, t4] at hfr
            rw [hfr]
            clear hfr hD t142 t143 t144 t145 t146 t147 t148 t149 t150 t151 t152 t153 t154 t155 t4
            have HBW := Kp.mk hbW
            clear hbW
            simp only [Act.put, List.setIfInBounds_toArray, List.set_cons_succ, List.set_cons_zero]
            go_wp2
            go_ret
            exact ⟨rfl, HF.it.trans (HBW.it.mono HF.it.size)⟩

set_option linter.unusedVariables false in
set_option maxRecDepth 100000 in
theorem groupNobody_lifted (os : Os) (started : os.Started) (H : Type) (enc : TypeId × Value → H) :
    ReturnsInHanded {} Try.checked os 11 .any (Rows.groupNobodySpec.pre6 enc Try.prog Try.f11 Rows.groupNobodyRow.domain false) (Rows.groupNobodySpec.post enc Try.prog Try.f11 false true false false) := by
  refine returnsInHanded_of_change_sized (C := Try.checked) (by kernel_rfl) started (by kernel_rfl) Try.func11
    (ChangeSpec.witness6 (enc := enc) (C := Try.checked) false ⟨#[], #[.agg #[.int .i64 0, .string ⟨#[]⟩, .int .i64 0, .int .i64 0, .int .i64 0, .int .i64 0, .int .i64 0, .int .i64 0], .slice none 0 0], []⟩ 8 (by kernel_rfl) (by kernel_rfl) (by kernel_rfl) (by kernel_rfl)) ?_
  intro W base args ds gs before hval0 hW hcnd hsz0 _
  have hval : ∀ (j : Nat) t v, Try.f11.params[j]? = some t → args[j]? = some v → Value.okWide Try.prog W .any base t v := hval0
  have hW' := hW
  obtain ⟨p, q, hA0, hV, rfl, hfz, hnd⟩ := hW
  have hA : DataW.TrodAll enc Try.prog W 0 (fun _ => true) true Try.f11.params.toList args.toList ds p := hA0
  have hsz : (DataW.weightsEach Try.prog (Try.f11.params.toList ++ Rows.groupNobodySpec.plain.varTypes Try.prog) (ds ++ gs)).all (· ≤ reachBytes) = true := hsz0
  rw [Try.params11] at hA hval hsz
  obtain ⟨v0, vs0, d0, ds0, p0, q0, hargs, rfl, rfl, h0, r0⟩ := trodAll_cons hA
  obtain ⟨v1, vs1, d1, ds1, p1, q1, rfl, rfl, rfl, h1, r1⟩ := trodAll_cons r0
  obtain ⟨rfl, rfl, rfl⟩ := trodAll_nil r1
  obtain rfl : args = #[v0, v1] := by cases args; simp_all
  obtain ⟨rfl, rfl⟩ := trodVars_none hV
  have k0 := h0
  have lt0 : ∀ x ∈ p0, x.block < W.heap.size := by obtain ⟨m, hm⟩ := k0; exact DataW.trod_lt m _ _ _ hm
  obtain ⟨kv0, rfl, kz0⟩ := dv_open (hval 0 40 v0 rfl rfl) h0
  have k1 := h1
  have lt1 : ∀ x ∈ p1, x.block < W.heap.size := by obtain ⟨m, hm⟩ := k1; exact DataW.trod_lt m _ _ _ hm
  obtain ⟨A1, n1, c1, bs1, rfl, ra1, ea1⟩ := bytes_open (hval 1 66 v1 rfl rfl) h1 (fun x hx => by simpa using List.all_eq_true.1 hsz x (DataW.weights_mem_each (j := 1) (t := 66) rfl rfl x hx))
  clear hA0 hval0 hsz hsz0
  refine (nobody_walk kv0 kz0 A1 n1 c1 bs1 W ra1).mono fun e W' ⟨he, bel⟩ => ?_
  subst he
  exact ⟨_, rfl, _, _, _, [], _, [], hW', trodAll_mk1 (shut_bool Try.underlying4 _), (trodAll_cons_mk (Below.trod (by kernel_rfl) (by kernel_rfl) (of_decide_eq_true (by kernel_rfl)) k0 bel lt0) (trodAll_cons_mk (Below.trod (by kernel_rfl) (by kernel_rfl) (of_decide_eq_true (by kernel_rfl)) k1 bel lt1) trodAll_mk0)), rfl, bel.frame _, fun h => by cases h⟩

theorem GroupNobody_holds : Rows.GroupNobodySaid :=
  OpenClaim.holds_of_wide 11 Try.f11 rfl rfl rfl rfl rfl rfl rfl ⟨rfl, rfl, rfl, rfl, rfl⟩ rfl rfl rfl rfl rfl (by kernel_rfl) Try.func11 (by kernel_rfl)
    (of_decide_eq_true (by kernel_rfl)) (by unfold Func.isWrapper; first | (rw [if_pos (by decide +kernel)]; kernel_rfl) | (rw [if_neg (by decide +kernel)]; exact ⟨rfl, rfl⟩))
    (fun os started H enc _ => groupNobody_lifted os started H enc)
end Go.Proofs.Ytemnhmnompehoaa
