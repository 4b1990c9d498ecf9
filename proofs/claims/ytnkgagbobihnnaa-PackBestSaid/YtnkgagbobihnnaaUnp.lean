/-
  The program's Unpack of what Pack wrote.
-/
import Derived.Test.YtnkgagbobihnnaaTxt
namespace Go.Proofs.Ytnkgagbobihnnaa
open Go Go.RowKit
attribute [local go_sem ↓] Go.wp_at_zero Go.wp_at_succ

theorem RDR.lt {w : World} {p n c : Nat} {A : Option Addr} {l : List UInt8} {a e : Nat} (h : RDR w p A n c l a e) : p < w.heap.size := (Array.getElem?_eq_some_iff.1 h.blk).1
theorem RDR.glt {w : World} {p n c g : Nat} {l : List UInt8} {a e : Nat} (h : RDR w p (some ⟨g, 0, none⟩) n c l a e) (h0 : 0 < n) : g < w.heap.size := by
  obtain ⟨b, o, e, hl, _⟩ := h.row.cells h0
  cases e
  exact hl
theorem RDR.grown {w w' : World} {p n c : Nat} {A : Option Addr} {l : List UInt8} {a e B : Nat} {r : Option Nat} (h : RDR w p A n c l a e) (hg : w.grownBy w' r) (hr : ∀ k, r = some k → B ≤ k) (hp : p < B) (hA : ∀ b o, A = some ⟨b, o, none⟩ → b < B) : RDR w' p A n c l a e := by
  refine ⟨(hg.block p h.lt (fun e => by have := hr p e.symm; omega)).trans h.blk, ⟨h.row.len, h.row.bd, fun h0 => ?_⟩, h.ne, h.pos, h.cap, h.small⟩
  obtain ⟨b, o, e, hlt, hc⟩ := h.row.cells h0
  refine ⟨b, o, e, Nat.lt_of_lt_of_le hlt hg.size, fun j hj => ?_⟩
  rw [← hc j hj]
  unfold World.cell?
  rw [hg.block b hlt (fun e2 => by have := hr b e2.symm; have := hA b o e; omega)]
theorem below_bw (w : World) (s : ByteArray) : Below w.heap.size w (Lib.bytesWorld w 5 s) :=
  ⟨rfl, rfl, rfl, by rw [Lib.bytesWorld_size]; omega, fun k hk => Lib.bytesWorld_at_old w 5 s k hk⟩
/-- Where the k-th part begins in what was packed. -/
def posK (bs : List UInt8) (k : Nat) : Nat := (packN bs (List.range k)).length
theorem packN_app (b : List UInt8) (l r : List Nat) : packN b (l ++ r) = packN b l ++ r.flatMap fun k => blockP (part b k) := by
  unfold packN
  rw [List.flatMap_append, ← List.append_assoc]
theorem pack_drop {bs : List UInt8} {k : Nat} (hk : k < cks bs.length) : ∃ s, (packP bs).drop (posK bs k) = blockP (part bs k) ++ s := by
  obtain ⟨r, hr⟩ : ∃ r, cks bs.length = (k + 1) + r := ⟨cks bs.length - (k + 1), by omega⟩
  refine ⟨((List.range r).map (k + 1 + ·)).flatMap fun k => blockP (part bs k), ?_⟩
  unfold packP posK
  rw [hr, List.range_add, packN_app, List.range_succ, packN_app, List.append_assoc, List.drop_left]
  simp
theorem posK_succ (bs : List UInt8) (k : Nat) : posK bs (k + 1) = posK bs k + (blockP (part bs k)).length := by
  unfold posK
  rw [List.range_succ, packN_snoc, List.length_append]
theorem posK_zero (bs : List UInt8) : posK bs 0 = (numB bs.length).length := by unfold posK packN; simp
theorem take_part (bs : List UInt8) (k : Nat) : bs.take (4096 * (k + 1)) = bs.take (4096 * k) ++ part bs k := by
  unfold part
  rw [show 4096 * (k + 1) = 4096 * k + 4096 by omega, List.take_add]
/-- A part that large brings back. -/
def LargeOk (bs : List UInt8) (n k : Nat) : Prop := ∀ (A : Option Addr) (m c : Nat) (w : World), Rb w A m (smallP (part bs k)) → Calls Try.prog 54 #[.slice A m c, .int .i64 (cl n k)] w fun e w' => ∃ v, e = .returned (.tuple #[v, .bool true]) ∧ OwnB w' w.heap.size v (part bs k) ∧ Below w.heap.size w w'
/-- What holds while the parts are read. -/
structure UI (w wr : World) (B p g N c1 n k : Nat) (bs : List UInt8) (A : Option Addr) (o8 c8 : Nat) : Prop where
  len : o8 = min (4096 * k) n
  own : OwnB wr B (.slice A o8 c8) (bs.take (4096 * k))
  rd : RDR wr p (some ⟨g, 0, none⟩) N c1 (packP bs) (posK bs k) 0
  bel : Below w.heap.size w wr
  hp : p < B
  hg : g < B
  hw : w.heap.size ≤ B
  hpw : w.heap.size ≤ p
  hB : B ≤ wr.heap.size

theorem UI.next {w wr w6 w7 : World} {B p g N c1 n k o8 c8 q : Nat} {bs : List UInt8} {A8 : Option Addr} {v7 : Value} (HI : UI w wr B p g N c1 n k bs A8 o8 c8) (hl : bs.length = n) (hn : n ≤ 1000000) (hk : 4096 * k < n) (O6 : OwnB w6 B (.slice A8 o8 c8) (bs.take (4096 * k))) (R6 : RDR w6 p (some ⟨g, 0, none⟩) N c1 (packP bs) q 0) (hq : q = posK bs k + (blockP (part bs k)).length)
    (B6 : Below w.heap.size w w6) (Z6 : B ≤ w6.heap.size) (O7 : OwnB w7 B v7 (bs.take (4096 * k) ++ part bs k)) (G7 : w6.grownBy w7 (Value.slice A8 o8 c8).ownBlock) :
    ∃ A o c, v7 = .slice A o c ∧ UI w w7 B p g N c1 n (k + 1) bs A o c ∧ n - o < n - o8 := by
  have O7' := O7
  rw [← take_part bs k] at O7'
  have hlen : (bs.take (4096 * (k + 1))).length = min (4096 * (k + 1)) n := by rw [List.length_take, hl]
  obtain ⟨A, c, hv, _⟩ := O7'.form (by omega)
  rw [hlen] at hv
  subst hv
  refine ⟨A, _, c, rfl, ⟨rfl, O7', ?_, below_ownB B6 B6.size O6 HI.hw G7, HI.hp, HI.hg, HI.hw, HI.hpw, Nat.le_trans Z6 G7.size⟩, ?_⟩
  · have h9 := R6.grown (B := B) G7 (fun k e => O6.base_le k e) HI.hp (fun b o e => by cases e; exact HI.hg)
    rw [posK_succ, ← hq]
    exact h9
  · rw [HI.len]; omega

set_option maxRecDepth 100000 in
set_option maxHeartbeats 4000000 in
theorem unpack_any (A : Option Addr) (N c : Nat) (bs : List UInt8) (m : Int) (w : World) (h : Rb w A N (packP bs)) (hnil : A = none → c = 0) (n : Nat) (hl : bs.length = n) (hn : n ≤ 1000000) (hN : N ≤ 1000000000) (hm : (n : Int) ≤ m) (HLG : ∀ k, k < cks n → (smallP (part bs k)).length < (part bs k).length → LargeOk bs n k) :
    Calls Try.prog 30 #[.slice A N c, .int .i64 m] w fun e w' => ∃ v, e = .returned (.tuple #[v, .int .i64 0]) ∧ OwnB w' w.heap.size v bs ∧ Below w.heap.size w w' := by
  have H := Kp.mk h
  have HLG := Kp.mk HLG
  have HE := Kp.mk hnil
  have HRD := Kp.mk (read49 A N c (packP bs) w h hnil hN)
  have HN0 : Kp (0 < N) := ⟨by rw [← h.len]; unfold packP packN numB; simp⟩
  have HL := Kp.mk hl
  have hmx : decide ((n : Int) > max m 0) = false := by simp; omega
  clear h hnil hm hl
  go_enter Try.func30, Try.ntmps30
  go_wp2_with fail
  go_at_call 49
  refine HRD.it.mono ?_
  rintro e w1 ⟨p, A1, c1, rfl, hR, hA1, hp, hb⟩
  obtain ⟨g, rfl⟩ := hA1 HN0.it
  have HX : Kp (∃ s, (packP bs).drop 0 = numB n ++ s) := ⟨⟨_, by rw [← HL.it]; unfold packP packN; exact List.drop_zero⟩⟩
  obtain ⟨s0, hs0⟩ := HX.it
  have HNB := Kp.mk (number_back hR (by omega) hs0)
  have HB1 := Kp.mk hb
  have HPQ : Kp (p < w1.heap.size ∧ g < w1.heap.size ∧ w.heap.size ≤ p) := ⟨hR.lt, hR.glt HN0.it, hp⟩
  clear hs0 hA1 hp hb hR HRD HX
  go_wp2_with fail
  refine HNB.it.mono ?_
  rintro e w2 ⟨rfl, hR2, hg2⟩
  have HE2 := Kp.mk (err51 hR2)
  have HUI : Kp (UI w w2 w1.heap.size p g N c1 n 0 bs none 0 0) := ⟨⟨by simp, by rw [Nat.mul_zero, List.take_zero]; exact OwnB.nil _ _, by rw [posK_zero, HL.it, ← Nat.zero_add (numB n).length]; exact hR2, HB1.it.grown hg2 HB1.it.size (fun k e => by cases e; exact HPQ.it.2.2), HPQ.it.1, HPQ.it.2.1, HB1.it.size, HPQ.it.2.2, hg2.size⟩⟩
  clear hR2 hg2 HNB
  go_wp2_with (go_at_call 51; refine HE2.it.mono ?_; rintro e _ ⟨rfl, rfl⟩)
  obtain ⟨B, hB⟩ : ∃ B, B = w1.heap.size := ⟨_, rfl⟩
  rw [← hB] at HUI
  clear hB HB1 HPQ HE2
  go_loopw [8] (fun v wr => ∃ (k : Nat) (A : Option Addr) (o8 c8 : Nat), k ≤ cks n ∧ v = .slice A o8 c8 ∧ Kp (UI w wr B p g N c1 n k bs A o8 c8)) (fun v _ => match v with | .slice _ o _ => n - o | _ => 0)
  case atStart => exact ⟨0, none, 0, 0, by omega, rfl, HUI⟩
  case round =>
    obtain ⟨k, A8, o8, c8, hk, rfl, HI⟩ := hrel
    have HE3 := Kp.mk (err51 HI.it.rd)
    by_cases hkn : k < cks n
    · have h4 : 4096 * k < n := by unfold cks at hkn; omega
      have ho8 : o8 = 4096 * k := by rw [HI.it.len]; omega
      have hlt : decide (o8 < n) = true := by simp; omega
      have hw : IntKind.i64.wrap ((n : Int) - (o8 : Int)) = ((n - o8 : Nat) : Int) := by rw [IntWalk.i64_in _ (by omega)]; omega
      have hmn : min (4096 : Int) ((n - o8 : Nat) : Int) = ((cl n k : Nat) : Int) := by unfold cl; omega
      have HCL : Kp ((part bs k).length = cl n k) := ⟨part_len HL.it k⟩
      have hcl : cl n k ≤ 4096 := by unfold cl; omega
      have hcl0 : 0 < cl n k := by unfold cl; omega
      have HO8 := Kp.mk ho8
      clear ho8
      obtain ⟨s9, hs9⟩ := pack_drop (bs := bs) (k := k) (by rw [HL.it]; exact hkn)
      have HS := Kp.mk hs9
      clear hs9
      have HPK := Kp.mk (posK_succ bs k)
      obtain ⟨C, hC⟩ : ∃ C, C = cl n k := ⟨_, rfl⟩
      rw [← hC] at hcl hcl0 hmn HCL
      have HCC := Kp.mk hC
      clear hC
      by_cases hsm : (smallP (part bs k)).length < (part bs k).length
      · have HBP : Kp (blockP (part bs k) = numB 1 ++ txtB ⟨(smallP (part bs k)).toArray⟩) := ⟨by unfold blockP; rw [if_pos hsm]⟩
        have HS0 : Kp ((packP bs).drop (posK bs k) = numB 1 ++ (txtB ⟨(smallP (part bs k)).toArray⟩ ++ s9)) := ⟨by rw [HS.it, HBP.it, List.append_assoc]⟩
        have HW := Kp.mk (within52 (lo := 0) (hi := 1) HI.it.rd (by omega) HS0.it (by omega) (by omega))
        obtain ⟨T, hT⟩ : ∃ T : ByteArray, T = ⟨(smallP (part bs k)).toArray⟩ := ⟨_, rfl⟩
        rw [← hT] at HBP HS0
        have HTZ : Kp (T.size < C) := ⟨by rw [hT, ← HCL.it]; simpa [ByteArray.size] using hsm⟩
        have HTL : Kp (T.data.toList = smallP (part bs k)) := ⟨by rw [hT]⟩
        have HS1 : Kp ((packP bs).drop (posK bs k + (numB 1).length) = txtB T ++ s9) := ⟨by rw [← List.drop_drop, HS0.it, List.drop_left]⟩
        have HLK := Kp.mk (HLG.it k hkn hsm)
        clear hT hsm HLG
        have hq1 : ((T.size : Int) == (C : Int)) = false := by have := HTZ.it; simp; omega
        have hq2 : (T.size == C) = false := by have := HTZ.it; simp; omega
        go_wp2_with (first | (go_at_call 51; refine HE3.it.mono ?_; rintro e _ ⟨rfl, rfl⟩) | (go_at_call 52; refine HW.it.mono ?_; rintro e w4 ⟨rfl, hr4, hg4⟩; have R4 := Kp.mk hr4; have G4 := Kp.mk hg4; have HT := Kp.mk (text53 (many := 4096) hr4 (by have := HTZ.it; omega) (by omega) HS1.it); clear hr4 hg4) | (go_at_call 53; refine HT.it.mono ?_; rintro e w5 ⟨rfl, hr5, hg5⟩; have R5 := Kp.mk hr5; have G5 := Kp.mk hg5; clear hr5 hg5))
        rw [Lib.run_convert_string_bytes w5 9 29 5 T (u := .string) Try.underlying9 Try.underlying29 Try.underlying5]
        simp only [Result.andThen]
        rw [Oper.upon_value]
        have G45 : Kp (wr.grownBy w5 (some p)) := ⟨G4.it.trans G5.it⟩
        have O5 : Kp (OwnB w5 B (.slice A8 o8 c8) (bs.take (4096 * k))) := ⟨HI.it.own.kept G45.it (.inl fun e => by have := HI.it.own.base_le p e; have := HI.it.hp; omega)⟩
        have B5 : Kp (Below w.heap.size w w5) := ⟨HI.it.bel.grown G45.it HI.it.bel.size (fun k e => by cases e; exact HI.it.hpw)⟩
        have hb6 := below_bw w5 T
        have O6 : Kp (OwnB (Lib.bytesWorld w5 5 T) B (.slice A8 o8 c8) (bs.take (4096 * k))) := ⟨O5.it.below hb6⟩
        have R6 := Kp.mk (R5.it.below hb6)
        have B6 : Kp (Below w.heap.size w (Lib.bytesWorld w5 5 T)) := ⟨B5.it.trans (hb6.mono B5.it.size)⟩
        have T6 : Kp (Rb (Lib.bytesWorld w5 5 T) (some ⟨w5.heap.size, 0, none⟩) T.size (smallP (part bs k))) := ⟨by rw [← HTL.it]; exact bw_rb w5 T (by have := HTZ.it; omega)⟩
        have Z6 : Kp (B ≤ (Lib.bytesWorld w5 5 T).heap.size) := ⟨Nat.le_trans HI.it.hB (Nat.le_trans G45.it.size hb6.size)⟩
        have L6 : Kp ((bs.take (4096 * k)).length + (part bs k).length ≤ 140737488355328) := ⟨by rw [HCL.it, List.length_take]; omega⟩
        obtain ⟨w6, hw6⟩ : ∃ w6, w6 = Lib.bytesWorld w5 5 T := ⟨_, rfl⟩
        rw [← hw6] at O6 R6 B6 T6 Z6 ⊢
        obtain ⟨cc, hcc⟩ : ∃ cc, cc = grownCap w5 T.size 0 5 := ⟨_, rfl⟩
        rw [← hcc]
        obtain ⟨g6, hg6⟩ : ∃ g6, g6 = w5.heap.size := ⟨_, rfl⟩
        rw [← hg6] at T6 ⊢
        clear hw6 hcc hg6 hb6
        have HL6 : Kp (∀ cc, Calls Try.prog 54 #[.slice (some ⟨g6, 0, none⟩) T.size cc, .int .i64 C] w6 fun e w' => ∃ v, e = .returned (.tuple #[v, .bool true]) ∧ OwnB w' w6.heap.size v (part bs k) ∧ Below w6.heap.size w6 w') := ⟨fun cc => by rw [HCC.it]; exact HLK.it _ _ cc w6 T6.it⟩
        clear HLK
        go_wp2_with (go_at_call 54; refine (HL6.it _).mono ?_; rintro e w8 ⟨v8, rfl, ho8, hb8⟩; obtain ⟨A5, c5, hv5, hnl5, _, hr5⟩ := ho8.form (by rw [HCL.it]; omega); rw [HCL.it] at hv5 hr5; subst hv5; have T8 := Kp.mk hr5; have N8 := Kp.mk hnl5; have O8 : Kp (OwnB w8 B (.slice A8 o8 c8) (bs.take (4096 * k))) := ⟨O6.it.below hb8⟩; have R8 := Kp.mk (R6.it.below hb8); have B8 : Kp (Below w.heap.size w w8) := ⟨B6.it.trans (hb8.mono B6.it.size)⟩; have Z8 : Kp (B ≤ w8.heap.size) := ⟨Nat.le_trans Z6.it hb8.size⟩; have HE6 := Kp.mk (err51 R8.it); clear ho8 hb8 hr5 hnl5)
        go_wp2_with (first | (go_at_call 51; refine HE6.it.mono ?_; rintro e _ ⟨rfl, rfl⟩) | (refine app_bs rfl (.tmp 66) (.tmp 67) rfl B _ _ A5 C c5 _ rfl rfl O8.it T8.it N8.it Z8.it L6.it ?_; intro v7 w7 ho7 hg7; have O7 := Kp.mk ho7; have G7 := Kp.mk hg7; clear ho7 hg7))
        obtain ⟨A9, o9, c9, rfl, hU, hlo⟩ := HI.it.next HL.it hn h4 O8.it R8.it (by rw [HBP.it, List.length_append]; omega) B8.it Z8.it O7.it G7.it
        exact ⟨⟨k + 1, A9, o9, c9, hkn, rfl, ⟨hU⟩⟩, hlo⟩
      · have HBP : Kp (blockP (part bs k) = numB 0 ++ txtB ⟨(part bs k).toArray⟩) := ⟨by unfold blockP; rw [if_neg hsm]⟩
        have HS0 : Kp ((packP bs).drop (posK bs k) = numB 0 ++ (txtB ⟨(part bs k).toArray⟩ ++ s9)) := ⟨by rw [HS.it, HBP.it, List.append_assoc]⟩
        have HW := Kp.mk (within52 (lo := 0) (hi := 1) HI.it.rd (by omega) HS0.it (by omega) (by omega))
        obtain ⟨T, hT⟩ : ∃ T : ByteArray, T = ⟨(part bs k).toArray⟩ := ⟨_, rfl⟩
        rw [← hT] at HBP HS0
        have HTZ : Kp (T.size = C) := ⟨by rw [hT, ← HCL.it]; simp [ByteArray.size]⟩
        have HTL : Kp (T.data.toList = part bs k) := ⟨by rw [hT]⟩
        have HS1 : Kp ((packP bs).drop (posK bs k + (numB 0).length) = txtB T ++ s9) := ⟨by rw [← List.drop_drop, HS0.it, List.drop_left]⟩
        clear hT hsm HLG
        have hq1 : ((T.size : Int) == (C : Int)) = true := by rw [HTZ.it]; simp
        have hq2 : (T.size == C) = true := by rw [HTZ.it]; simp
        go_wp2_with (first | (go_at_call 51; refine HE3.it.mono ?_; rintro e _ ⟨rfl, rfl⟩) | (go_at_call 52; refine HW.it.mono ?_; rintro e w4 ⟨rfl, hr4, hg4⟩; have R4 := Kp.mk hr4; have G4 := Kp.mk hg4; have HT := Kp.mk (text53 (many := 4096) hr4 (by rw [HTZ.it]; exact hcl) (by omega) HS1.it); clear hr4 hg4) | (go_at_call 53; refine HT.it.mono ?_; rintro e w5 ⟨rfl, hr5, hg5⟩; have R5 := Kp.mk hr5; have G5 := Kp.mk hg5; clear hr5 hg5))
        rw [Lib.run_convert_string_bytes w5 9 29 5 T (u := .string) Try.underlying9 Try.underlying29 Try.underlying5]
        simp only [Result.andThen]
        rw [Oper.upon_value]
        have G45 : Kp (wr.grownBy w5 (some p)) := ⟨G4.it.trans G5.it⟩
        have O5 : Kp (OwnB w5 B (.slice A8 o8 c8) (bs.take (4096 * k))) := ⟨HI.it.own.kept G45.it (.inl fun e => by have := HI.it.own.base_le p e; have := HI.it.hp; omega)⟩
        have B5 : Kp (Below w.heap.size w w5) := ⟨HI.it.bel.grown G45.it HI.it.bel.size (fun k e => by cases e; exact HI.it.hpw)⟩
        have hb6 := below_bw w5 T
        have O6 : Kp (OwnB (Lib.bytesWorld w5 5 T) B (.slice A8 o8 c8) (bs.take (4096 * k))) := ⟨O5.it.below hb6⟩
        have R6 := Kp.mk (R5.it.below hb6)
        have B6 : Kp (Below w.heap.size w (Lib.bytesWorld w5 5 T)) := ⟨B5.it.trans (hb6.mono B5.it.size)⟩
        have T6 : Kp (Rb (Lib.bytesWorld w5 5 T) (some ⟨w5.heap.size, 0, none⟩) T.size (part bs k)) := ⟨by rw [← HTL.it]; exact bw_rb w5 T (by rw [HTZ.it]; omega)⟩
        have Z6 : Kp (B ≤ (Lib.bytesWorld w5 5 T).heap.size) := ⟨Nat.le_trans HI.it.hB (Nat.le_trans G45.it.size hb6.size)⟩
        have L6 : Kp ((bs.take (4096 * k)).length + (part bs k).length ≤ 140737488355328) := ⟨by rw [HCL.it, List.length_take]; omega⟩
        have HE6 := Kp.mk (err51 R6.it)
        obtain ⟨w6, hw6⟩ : ∃ w6, w6 = Lib.bytesWorld w5 5 T := ⟨_, rfl⟩
        rw [← hw6] at HE6 O6 R6 B6 T6 Z6 ⊢
        obtain ⟨cc, hcc⟩ : ∃ cc, cc = grownCap w5 T.size 0 5 := ⟨_, rfl⟩
        rw [← hcc]
        obtain ⟨g6, hg6⟩ : ∃ g6, g6 = w5.heap.size := ⟨_, rfl⟩
        rw [← hg6] at T6 ⊢
        clear hw6 hcc hg6 hb6
        go_wp2_with (first | (go_at_call 51; refine HE6.it.mono ?_; rintro e _ ⟨rfl, rfl⟩) | (refine app_bs rfl (.tmp 66) (.tmp 67) rfl B _ _ (some ⟨g6, 0, none⟩) T.size cc _ rfl rfl O6.it T6.it (fun h => by cases h) Z6.it L6.it ?_; intro v7 w7 ho7 hg7; have O7 := Kp.mk ho7; have G7 := Kp.mk hg7; clear ho7 hg7))
        obtain ⟨A9, o9, c9, rfl, hU, hlo⟩ := HI.it.next HL.it hn h4 O6.it R6.it (by rw [HBP.it, List.length_append]; omega) B6.it Z6.it O7.it G7.it
        exact ⟨⟨k + 1, A9, o9, c9, hkn, rfl, ⟨hU⟩⟩, hlo⟩
    · have hke : 4096 * k ≥ n := by unfold cks at hkn; omega
      have hcke : k = cks n := by omega
      have ho8 : o8 = n := by rw [HI.it.len]; omega
      have hlt : decide (o8 < n) = false := by simp; omega
      have HO8 : Kp (OwnB wr B (.slice A8 o8 c8) bs) := ⟨by have h9 := HI.it.own; rwa [List.take_of_length_le (by rw [HL.it]; omega)] at h9⟩
      have HEND := Kp.mk (end55 (w := wr.drew) (p := p) (n := N) (c := c1) (A := some ⟨g, 0, none⟩) (l := packP bs) (by
        have h9 := HI.it.rd.drew
        have h8 : posK bs k = N := by
          rw [← H.it.len]; unfold posK packP; rw [HL.it, hcke]
        rwa [h8] at h9))
      obtain ⟨A9, c9, e9, hnil9, hcap9, R9⟩ := HO8.it.form (by rw [HL.it]; omega)
      rw [HL.it] at e9 R9 hcap9
      rw [ho8] at e9 HO8 hlt ⊢
      cases e9
      have R9 := Kp.mk R9
      have NIL9 := Kp.mk hnil9
      have BL : Kp (Below w.heap.size w wr.drew) := ⟨HI.it.bel.trans ((below_drew (Below.refl wr.heap.size wr)).mono HI.it.bel.size)⟩
      have RB : Kp (Rb wr.drew A N (packP bs)) := ⟨H.it.below BL.it⟩
      have PLN : Kp ((packP bs).length = N) := ⟨H.it.len⟩
      have O8 : Kp (OwnB wr.drew w.heap.size (.slice A8 n c8) bs) := ⟨(HO8.it.relax HI.it.hw).below (below_drew (Below.refl wr.heap.size wr))⟩
      clear HI hnil9 HO8 HLG ho8
      go_wp2_with (go_at_call 51; refine HE3.it.mono ?_; rintro e _ ⟨rfl, rfl⟩)
      go_region_with (first | (go_at_call 55; refine HEND.it.mono ?_; rintro e w3 ⟨rfl, hb3⟩; have B3 := Kp.mk hb3; have P3 := Kp.mk (pack_any A8 n c8 bs w3 ((R9.it.below (below_drew (Below.refl _ _))).below hb3) NIL9.it hcap9 hn); have hcB3 := (RB.it.below hb3).conv c; clear hb3) | (go_at_call 37; refine P3.it.mono ?_; rintro e w4 ⟨v4, rfl, ho4, hb4⟩; obtain ⟨A4, c4, hv4, _, _, hr4⟩ := ho4.form (by rw [PLN.it]; omega); subst hv4; have hc4 := hr4.conv c4; have hcB4 := ((RB.it.below B3.it).below hb4).conv c; have B4 := Kp.mk hb4; clear ho4 hb4 hr4))
      all_goals go_wp2
      all_goals (try go_ret2)
      all_goals exact ⟨.slice A8 n c8, rfl, (O8.it.below B3.it).below B4.it, BL.it.trans ((B3.it.trans (B4.it.mono B3.it.size)).mono BL.it.size)⟩
end Go.Proofs.Ytnkgagbobihnnaa
