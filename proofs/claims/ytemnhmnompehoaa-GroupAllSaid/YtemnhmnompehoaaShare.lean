/-
  Share: how parts are shared.
-/
import Derived.Test.YtemnhmnompehoaaRow
namespace Go.Proofs.Ytemnhmnompehoaa
open Go Go.RowKit

/-- What was there is there still: A names another block than g. -/
def Aw (g n : Nat) (A : Option Addr) : Prop := 0 < n → ∀ b o, A = some ⟨b, o, none⟩ → b ≠ g
theorem Rd.aw {w : World} {A : Option Addr} {n g : Nat} {xs : List Int} (h : Rd w A n xs) (hg : w.heap.size ≤ g) : Aw g n A := by
  intro h0 b o e
  obtain ⟨b', o', e', hlt, _⟩ := h.cells h0
  rw [e] at e'
  cases e'
  omega

theorem stay_told {l : List Int} {k n : Nat} (hk : k < n) : l ++ List.replicate (n - k) 0 = (l ++ [0]) ++ List.replicate (n - (k + 1)) (0 : Int) := by
  rw [show n - k = (n - (k + 1)) + 1 by omega, List.replicate_succ, List.append_assoc]
  rfl
theorem keepS_next_pos {room : Int → Int} {os : List Int} {k : Nat} (h : 0 < (keepS room os k).2 (rd os k)) : keepS room os (k + 1) = ((keepS room os k).1 ++ [rd os k], upd (keepS room os k).2 (rd os k) ((keepS room os k).2 (rd os k) - 1)) := by
  rw [keepS, if_pos h]
theorem keepS_next_neg {room : Int → Int} {os : List Int} {k : Nat} (h : ¬ 0 < (keepS room os k).2 (rd os k)) : keepS room os (k + 1) = ((keepS room os k).1 ++ [0], (keepS room os k).2) := by
  rw [keepS, if_neg h]
/-- A list of zeros whose first k are told. -/
theorem set_told {l : List Int} {k n : Nat} {x : Int} (hl : l.length = k) (hk : k < n) : (l ++ List.replicate (n - k) 0).set k x = (l ++ [x]) ++ List.replicate (n - (k + 1)) 0 := by
  rw [List.set_append_right _ _ (by omega), hl, Nat.sub_self, show n - k = (n - (k + 1)) + 1 by omega, List.replicate_succ, List.set_cons_zero, List.append_assoc]
  rfl
theorem set_fill {l L : List Int} {k : Nat} {x : Int} (hl : l.length = k) (hk : k < L.length) : (l ++ L.drop k).set k x = (l ++ [x]) ++ L.drop (k + 1) := by
  rw [List.set_append_right _ _ (by omega), hl, Nat.sub_self, List.drop_eq_getElem_cons hk, List.set_cons_zero, List.append_assoc]
  rfl
theorem stay_fill {l L : List Int} {k : Nat} (hk : k < L.length) : l ++ L.drop k = (l ++ [rd L k]) ++ L.drop (k + 1) := by
  rw [List.append_assoc, rd_lt hk]
  congr 1
  exact List.drop_eq_getElem_cons hk
theorem rd_told {l L : List Int} {k : Nat} (hl : l.length = k) (_hk : k < L.length) : rd (l ++ L.drop k) k = rd L k := by
  unfold rd
  rw [List.getD_eq_getElem?_getD, List.getD_eq_getElem?_getD, List.getElem?_append_right (by omega), hl, List.getElem?_drop]
  congr 2
  omega
theorem told_len {l : List Int} {k n : Nat} (hl : l.length = k) (hk : k ≤ n) : (l ++ List.replicate (n - k) (0 : Int)).length = n := by
  rw [List.length_append, hl, List.length_replicate]; omega
theorem fill_len {l L : List Int} {k : Nat} (hl : l.length = k) (hk : k ≤ L.length) : (l ++ L.drop k).length = L.length := by
  rw [List.length_append, hl, List.length_drop]; omega

theorem grown_any {w w' : World} {r : Option Nat} (h : Below w.heap.size w w') : w.grownBy w' r := ⟨h.os, h.tape, h.output, h.size, fun i hi _ => h.block i hi⟩
theorem grown_new {w wr w' : World} {r : Option Nat} {C : Nat} (h : w.grownBy wr r) (h2 : wr.grownBy w' (some C)) (hC : w.heap.size ≤ C) : w.grownBy w' r :=
  ⟨h2.os.trans h.os, h2.tape.trans h.tape, h2.output.trans h.output, Nat.le_trans h.size h2.size, fun i hi hne => (h2.block i (Nat.lt_of_lt_of_le hi h.size) (by intro e; injection e; omega)).trans (h.block i hi hne)⟩

theorem perm_sum {l m : List Int} (h : l.Perm m) : l.sum = m.sum := by
  induction h with
  | nil => rfl
  | cons x _ ih => rw [List.sum_cons, List.sum_cons, ih]
  | swap x y l => rw [List.sum_cons, List.sum_cons, List.sum_cons, List.sum_cons]; omega
  | trans _ _ h1 h2 => exact h1.trans h2
theorem nz_zeros (l : List Int) : nz l + l.countP (fun x => x == 0) = l.length := by
  unfold nz
  have := List.length_eq_countP_add_countP (p := fun x : Int => x == 0) (l := l)
  have e : (fun x : Int => x != 0) = (fun x => !(x == 0)) := rfl
  have e2 : l.countP (fun x : Int => x != 0) = l.countP (fun a => decide ¬((a == 0) = true)) := List.countP_congr (fun x _ => by simp)
  omega
theorem roomF_sum (os ms : List Int) (hT : (team ms).length ≠ 0) : ((team ms).map (roomF os ms)).sum = os.length := by
  have hp := List.mergeSort_perm (team ms) (leH (hasF os))
  have hl : ((team ms).mergeSort (leH (hasF os))).length = (team ms).length := List.length_mergeSort _
  rw [← perm_sum (hp.map (roomF os ms))]
  have h := roomK_sum (os.length / (team ms).length) (os.length % (team ms).length) _ (hp.nodup_iff.2 (team_nodup ms)) (team ms).length (by rw [hl]; exact Nat.le_refl _)
  rw [List.take_of_length_le (by rw [hl]; exact Nat.le_refl _)] at h
  rw [show roomF os ms = roomK (os.length / (team ms).length) (os.length % (team ms).length) ((team ms).mergeSort (leH (hasF os))) (team ms).length from rfl, h]
  have hlt := Nat.mod_lt os.length (Nat.pos_of_ne_zero hT)
  rw [Nat.min_eq_right (by omega), Nat.mul_comm, Nat.mul_comm, Nat.div_add_mod]
theorem roomF_out (os ms : List Int) {x : Int} (hx : x ∉ team ms) : roomF os ms x = 0 := by
  have hp := List.mergeSort_perm (team ms) (leH (hasF os))
  refine roomK_out _ _ _ _ _ (fun h => hx (hp.mem_iff.1 (List.mem_of_mem_take h))) (by rw [List.length_mergeSort]; exact Nat.le_refl _)
theorem share_fi (os ms : List Int) (hT : (team ms).length ≠ 0) : ((team ms).map (keepS (roomF os ms) os os.length).2).sum = ((keepS (roomF os ms) os os.length).1.countP (fun x => x == 0) : Nat) := by
  rw [keepS_sum (room := roomF os ms) (T := team ms) (os := os) (team_nodup ms) (fun x hx => by have := ((team_what ms).2 x).1 hx; omega) (fun x hx => roomF_out os ms hx), roomF_sum os ms hT]
  have := nz_zeros (keepS (roomF os ms) os os.length).1
  rw [keepS_len] at this
  omega

section
variable (A1 A2 : Option Addr) (n1 c1 n2 c2 : Nat) (os ms : List Int) (w : World) (h1 : Rd w A1 n1 os) (h2 : Rd w A2 n2 ms) (e2 : A2 = none → c2 = 0) (w1 : ∀ x ∈ os, Wf x) (w2 : ∀ x ∈ ms, Wf x) (hn1 : n1 ≤ 1000000) (hn2 : n2 ≤ 1000000)
include h1 h2 e2 w1 w2 hn1 hn2

set_option linter.unusedVariables false in
set_option maxRecDepth 100000 in
set_option maxHeartbeats 20000000 in
theorem share_any : Calls Try.prog 16 #[.slice A1 n1 c1, .slice A2 n2 c2] w fun e w' => ∃ v, e = .returned v ∧ Own w' w.heap.size v (share os ms) ∧ Below w.heap.size w w' := by
  have hmk := make_ints n1 (by omega)
  have hmm := @run_makeMap Try.prog
  have hb0 : Below w.heap.size w (w.alloc (.cells (zrow n1) 3)) := (Below.refl _ _).alloc (Nat.le_refl _) _
  have H1 := Kp.mk h1
  have H2 := Kp.mk h2
  have E2 := Kp.mk e2
  have W1 := Kp.mk w1
  have W2 := Kp.mk w2
  have HB0 := Kp.mk hb0
  have L1 := Kp.mk h1.len
  have L2 := Kp.mk h2.len
  have HZ := Kp.mk (blk_zrow w n1)
  clear h1 h2 e2 w1 w2 hb0
  have HCL := Kp.mk (clone_any A2 n2 c2 ms _ (H2.it.below HB0.it) E2.it)
  go_enter Try.func16, Try.ntmps16
  go_wp2_with fail
  refine HCL.it.mono ?_
  rintro e w2 ⟨v2, rfl, ho2, hb2⟩
  clear HCL
  have hs2 : w.heap.size + 1 ≤ w2.heap.size := by have := hb2.size; simpa using this
  have B2 : Kp (Below (w.heap.size + 1) (w.alloc (.cells (zrow n1) 3)) w2) := ⟨by simpa using hb2⟩
  have O2 : Kp (Own w2 (w.heap.size + 1) v2 ms) := ⟨by simpa using ho2⟩
  clear ho2 hb2
  have ML : Kp (ms.length ≤ 1000000) := ⟨by rw [L2.it]; exact hn2⟩
  obtain ⟨Av, cv, hv2, _⟩ := O2.it.form
  have HSO := Kp.mk (sort_any v2 ms w2 _ O2.it (by have := ML.it; omega))
  rw [hv2] at HSO
  rw [hv2]
  obtain ⟨nm, hnm⟩ : ∃ nm, nm = ms.length := ⟨_, rfl⟩
  rw [← hnm] at HSO hv2
  rw [← hnm]
  clear hnm
  go_wp2_with fail
  refine HSO.it.mono ?_
  rintro e w3 ⟨rfl, ho3, hg3⟩
  clear HSO
  have B3 := Kp.mk (B2.it.grown hg3 hs2 (fun k hk => O2.it.base_le k (by rw [hv2]; exact hk)))
  have hs3 : w.heap.size + 1 ≤ w3.heap.size := by have := hg3.size; omega
  have O3 := Kp.mk ho3
  clear ho3 hg3 B2 O2 hv2
  have HCO := Kp.mk (compact_any _ (sorted ms) w3 _ O3.it (by rw [sorted_length]; have := ML.it; omega))
  go_wp2_with fail
  refine HCO.it.mono ?_
  rintro e w4 ⟨v4, rfl, ho4, hv4, hg4⟩
  clear HCO
  have B4 := Kp.mk (B3.it.grown hg4 hs3 (fun k hk => O3.it.base_le k hk))
  have hs4 : w.heap.size + 1 ≤ w4.heap.size := by have := hg4.size; omega
  have O4 := Kp.mk ho4
  have ML4 : Kp ((Lib.compact (sorted ms)).length ≤ 1000000) := ⟨by have := Lib.compact_length_le (sorted ms); rw [sorted_length] at this; have := ML.it; omega⟩
  clear ho4 hg4 B3 O3 hv4
  have HDE := Kp.mk (delA v4 (Lib.compact (sorted ms)) w4 _ O4.it (by have := ML4.it; omega))
  obtain ⟨Av4, cv4, hv4, _⟩ := O4.it.form
  rw [hv4] at HDE
  rw [hv4]
  obtain ⟨nm4, hnm4⟩ : ∃ nm, nm = (Lib.compact (sorted ms)).length := ⟨_, rfl⟩
  rw [← hnm4] at HDE hv4
  rw [← hnm4]
  clear hnm4
  go_wp2_with fail
  refine HDE.it.mono ?_
  rintro e w5 ⟨v5, rfl, ho5, hg5⟩
  clear HDE
  have B5 := Kp.mk (B4.it.grown hg5 hs4 (fun k hk => O4.it.base_le k (by rw [hv4]; exact hk)))
  have hs5 : w.heap.size + 1 ≤ w5.heap.size := by have := hg5.size; omega
  have O5 : Kp (Own w5 (w.heap.size + 1) v5 (team ms)) := ⟨ho5⟩
  clear ho5 hg5 B4 O4 hv4
  have HTL : Kp ((team ms).length ≤ 1000000) := ⟨by have := team_len ms; have := ML.it; omega⟩
  obtain ⟨A5, c5, hv5, q5, _, _, r5⟩ := O5.it.form3 (by have := HTL.it; omega)
  have R5 := Kp.mk r5
  have Q5 := Kp.mk q5
  obtain ⟨T, hT⟩ : ∃ T, T = team ms := ⟨_, rfl⟩
  have HT := Kp.mk hT
  rw [← hT] at O5 HTL hv5 R5
  clear hT r5 q5
  obtain ⟨t, ht⟩ : ∃ t, t = T.length := ⟨_, rfl⟩
  have TL := Kp.mk ht
  have htb : t ≤ 1000000 := by rw [ht]; exact HTL.it
  rw [← ht] at hv5 R5
  clear ht
  subst hv5
  have Z5 : Kp (Blk w5 w.heap.size (List.replicate n1 0)) := ⟨HZ.it.below B5.it (by omega)⟩
  by_cases h0 : t = 0
  · have hq : ((t : Int) == 0) = true := by rw [beq_iff_eq]; omega
    have H0 := Kp.mk h0
    clear h0
    go_wp2
    go_ret
    refine ⟨_, rfl, ?_, ?_⟩
    · have : share os ms = List.replicate n1 0 := by unfold share; rw [← HT.it, ← TL.it, if_pos H0.it, L1.it]
      rw [this]
      have h9 := Z5.it.own (base := w.heap.size) (Nat.le_refl _) (by simp; omega)
      rwa [List.length_replicate] at h9
    · exact (HB0.it.trans (B5.it.mono (Nat.le_succ _)))
  have hq : ((t : Int) == 0) = false := by rw [beq_eq_false_iff_ne]; omega
  have htp : 0 < t := by omega
  clear h0
  have R1 : Kp (Rd w5 A1 n1 os) := ⟨H1.it.below (HB0.it.trans (B5.it.mono (Nat.le_succ _)))⟩
  have AW1 : Kp (Aw w.heap.size n1 A1) := ⟨H1.it.aw (Nat.le_refl _)⟩
  have AW5 : Kp (Aw w.heap.size t A5) := ⟨fun _ b o e => by
    have := O5.it.base_le b (by rw [e]; rfl)
    omega⟩
  have HIM0 := Kp.mk (IM.made w5)
  obtain ⟨B, hB⟩ : ∃ B, B = w5.heap.size := ⟨_, rfl⟩
  have HB' := Kp.mk hB
  go_wp2_with fail
  rw [← hB]
  rw [← hB] at HIM0
  clear hB
  go_loopw [37] (fun i wr => ∃ k : Nat, k ≤ n1 ∧ i = .int .i64 k ∧ Kp (IM wr B k (hasK os k)) ∧ Kp (wr.heap[B + 1]? = some (.cells #[.map (some B)] 83 (0, 0))) ∧ Kp (Below B w5 wr)) (fun i _ => n1 - (intOf i).toNat)
  case atStart =>
    refine ⟨0, by omega, rfl, ⟨?_⟩, ⟨?_⟩, ⟨?_⟩⟩
    · rw [hasK_zero]; exact HIM0.it.below ((Below.refl _ _).alloc (Nat.le_refl _) _)
    · rw [HB'.it]; exact blk_new1 _ _ _
    · rw [HB'.it]; exact ((Below.refl _ _).alloc (Nat.le_refl _) _).alloc (by simp) _
  case round =>
    obtain ⟨k, hk, rfl, HIM, HBX, HBL⟩ := hrel
    have hbox : wr.cell? ⟨B + 1, 0, none⟩ = some (.map (some B)) := blk_cell HBX.it rfl
    by_cases hkn : k < n1
    · have hd : decide ((k : Int) < (n1 : Int)) = true := by simp; omega
      obtain ⟨b, o, hA, hlt, hc0⟩ := R1.it.get hkn
      have hcell := (HBL.it.cell (p := ⟨b, o + k, none⟩) (by rw [HB'.it]; exact hlt)).trans hc0
      cases hA
      have hko : k < os.length := by rw [L1.it]; exact hkn
      have HN := Kp.mk (hasK_next hko)
      have WX : Kp (Wf (rd os k)) := ⟨W1.it _ (by rw [rd_lt hko]; exact List.getElem_mem _)⟩
      obtain ⟨x, hx⟩ : ∃ x, x = rd os k := ⟨_, rfl⟩
      rw [← hx] at hcell HN WX
      obtain ⟨y, hy⟩ : ∃ y, y = hasK os k x := ⟨_, rfl⟩
      have hyb := hasK_bd os k x
      rw [← hy] at hyb HN
      obtain ⟨hy0, hy1⟩ := hyb
      have HY := Kp.mk hy
      clear hx hy hc0 hlt hko
      go_wp2_with (first
        | (at_lookup; refine wpList_im_get _ rfl _ _ rfl B k (hasK os k) x rfl HIM.it rfl WX.it ?_; rw [← HY.it])
        | (at_mapUpdate; refine wpList_im_put _ rfl _ _ _ rfl B k (hasK os k) x (y + 1) rfl HIM.it rfl rfl WX.it (wf_of (by omega) (by omega)) (by omega) ?_; intro w7 him7 hg7; have HIM7 := Kp.mk him7; have HG7 := Kp.mk hg7; clear him7 hg7))
      go_roundw
      case rel =>
        refine ⟨k + 1, by omega, by go_num, ⟨by rw [HN.it]; exact HIM7.it⟩, ⟨?_⟩, ⟨HBL.it.grown HG7.it (by rw [HB'.it]; exact HBL.it.size) (fun j hj => by cases hj; exact Nat.le_refl _)⟩⟩
        rw [HG7.it.block (B + 1) (Array.getElem?_eq_some_iff.1 HBX.it).1 (by simp)]
        exact HBX.it
      case measure => simp [intOf]; omega
    have hd : decide ((k : Int) < (n1 : Int)) = false := by simp; omega
    obtain rfl : n1 = k := by omega
    have HI1 : Kp (IM wr B n1 (hasF os)) := ⟨by rw [← hasK_all, L1.it]; exact HIM.it⟩
    clear HIM
    have hsr : B + 1 < wr.heap.size := (Array.getElem?_eq_some_iff.1 HBX.it).1
    have HC7 := Kp.mk (clone_any A5 t c5 T wr (R5.it.below (by rw [← HB'.it]; exact HBL.it)) Q5.it)
    obtain ⟨w6, rfl⟩ : ∃ w6 : World, w6 = wr := ⟨_, rfl⟩
    go_wp2_with fail
    refine HC7.it.mono ?_
    rintro e w7 ⟨v7, rfl, ho7, hb7⟩
    clear HC7
    have HTN : Kp (T ≠ []) := ⟨by have := TL.it; intro h; rw [h] at this; simp at this; omega⟩
    have hf1 : ∀ z, 0 ≤ hasF os z ∧ hasF os z ≤ 1000000000 := fun z => by have := hasK_bd os os.length z; rw [hasK_all, L1.it] at this; omega
    have HF := Kp.mk hf1
    have hbox7 : w7.cell? ⟨B + 1, 0, none⟩ = some (.map (some B)) := (hb7.cell (p := ⟨B + 1, 0, none⟩) hsr).trans hbox
    have HSS := Kp.mk (sortStable_own (B + 1) B n1 (hasF os) v7 T w7 w6.heap.size HTN.it hbox7 (HI1.it.below hb7) hsr (by omega) HF.it ho7 ((team_what ms).1.imp (fun h => Int.le_of_lt h) |> (by rw [HT.it]; exact ·)) (fun x hx => by rw [HT.it] at hx; exact W2.it x ((team_what ms).2 x |>.1 hx).1) HTL.it)
    have O7 := Kp.mk ho7
    have B7 := Kp.mk hb7
    clear ho7 hb7 hf1 hbox7 hbox
    obtain ⟨A7, c7, hv7, _⟩ := O7.it.form
    rw [← TL.it] at hv7
    rw [hv7] at HSS
    rw [hv7]
    go_wp2_with fail
    refine HSS.it.mono ?_
    rintro e w8 ⟨rfl, ho8, hg8⟩
    clear HSS
    have B8 := Kp.mk (B7.it.grown hg8 B7.it.size (fun j hj => O7.it.base_le j (by rw [hv7]; exact hj)))
    have HML : Kp ((T.mergeSort (leH (hasF os))).length = t) := ⟨by rw [List.length_mergeSort]; exact TL.it.symm⟩
    obtain ⟨A8, c8, hv8, _, _, _, r8⟩ := ho8.form3 (by rw [HML.it]; omega)
    obtain ⟨M, hM⟩ : ∃ M, M = T.mergeSort (leH (hasF os)) := ⟨_, rfl⟩
    have HM := Kp.mk hM
    rw [← hM] at HML r8 hv8
    rw [HML.it] at r8 hv8
    cases hv8
    have R8 := Kp.mk r8
    clear ho8 hg8 r8 O7 hM hv7
    have hbl8 : Below B w5 w8 := HBL.it.trans (B8.it.mono (by omega))
    have BL8 := Kp.mk hbl8
    have hs8 : B + 1 < w8.heap.size := by have := B8.it.size; omega
    clear hbl8 HBL HBX HI1 B7 B8 HF
    obtain ⟨q, hq9⟩ : ∃ q : Nat, q = n1 / t := ⟨_, rfl⟩
    obtain ⟨r, hr9⟩ : ∃ r : Nat, r = n1 % t := ⟨_, rfl⟩
    have hqz : (n1 : Int) / (t : Int) = (q : Int) := by rw [hq9]; exact (Int.natCast_ediv n1 t).symm
    have hrz : (n1 : Int) % (t : Int) = (r : Int) := by rw [hr9]; exact (Int.natCast_emod n1 t).symm
    have hqb : q ≤ 1000000 := by rw [hq9]; exact Nat.le_trans (Nat.div_le_self _ _) hn1
    have hrb : r < t := by rw [hr9]; exact Nat.mod_lt _ htp
    have HQ := Kp.mk hq9
    have HR := Kp.mk hr9
    clear hq9 hr9
    have HIM9 := Kp.mk (IM.made w8)
    obtain ⟨C, hC⟩ : ∃ C, C = w8.heap.size := ⟨_, rfl⟩
    have HC' := Kp.mk hC
    go_wp2_with fail
    rw [← hC]
    rw [← hC] at HIM9
    clear hC
    go_loopw [54] (fun i wr => ∃ k : Nat, k ≤ t ∧ i = .int .i64 k ∧ Kp (IM wr C (2 * k) (roomK q r M k)) ∧ Kp (Below C w8 wr)) (fun i _ => t - (intOf i).toNat)
    case atStart => exact ⟨0, by omega, rfl, HIM9, ⟨by rw [HC'.it]; exact (Below.refl _ _).alloc (Nat.le_refl _) _⟩⟩
    case round =>
      clear HIM9
      obtain ⟨j, hj, rfl, HIM, HB9⟩ := hrel
      by_cases hjt : j < t
      · have hd2 : decide ((j : Int) < (t : Int)) = true := by simp; omega
        obtain ⟨b, o, hA, hlt, hc0⟩ := R8.it.get hjt
        have hcell := (HB9.it.cell (p := ⟨b, o + j, none⟩) (by rw [HC'.it]; exact hlt)).trans hc0
        cases hA
        have hjM : j < M.length := by rw [HML.it]; exact hjt
        have HN : Kp (roomK q r M (j + 1) = upd (roomK q r M j) (rd M j) (if j < r then (q : Int) + 1 else q)) := ⟨rfl⟩
        have WX : Kp (Wf (rd M j)) := ⟨by
          have h9 : rd M j ∈ T := by
            have h8 : rd M j ∈ M := by rw [rd_lt hjM]; exact List.getElem_mem hjM
            rw [HM.it] at h8 ⊢
            exact List.mem_mergeSort.1 h8
          rw [HT.it] at h9
          exact W2.it _ ((team_what ms).2 _ |>.1 h9).1⟩
        obtain ⟨x, hx⟩ : ∃ x, x = rd M j := ⟨_, rfl⟩
        rw [← hx] at hcell HN WX
        clear hx hc0 hlt hjM
        by_cases hjr : j < r
        · have hd3 : decide ((j : Int) < (r : Int)) = true := by simp; omega
          rw [if_pos hjr] at HN
          go_wp2_with (first
            | (at_mapUpdate; refine wpList_im_put _ rfl _ _ _ rfl C (2 * j) (roomK q r M j) x (q : Int) rfl HIM.it rfl rfl WX.it (wf_of (by omega) (by omega)) (by omega) ?_; intro w10 him7 hg7; have HIM7 := Kp.mk him7; have HG7 := Kp.mk hg7; clear him7 hg7)
            | (at_lookup; refine wpList_im_get _ rfl _ _ rfl C (2 * j + 1) _ x rfl HIM7.it rfl WX.it ?_; rw [upd_same])
            | (at_mapUpdate; refine wpList_im_put _ rfl _ _ _ rfl C (2 * j + 1) _ x ((q : Int) + 1) rfl HIM7.it rfl rfl WX.it (wf_of (by omega) (by omega)) (by omega) ?_; intro w11 him8 hg8; have HIM8 := Kp.mk him8; have HG8 := Kp.mk hg8; clear him8 hg8))
          go_roundw
          case rel =>
            have hsz : C ≤ wr.heap.size := by have := HB9.it.size; have := HC'.it; omega
            refine ⟨j + 1, by omega, by go_num, ⟨?_⟩, ⟨(HB9.it.grown HG7.it hsz (fun i hi => by cases hi; omega)).grown HG8.it (by have := HG7.it.size; omega) (fun i hi => by cases hi; omega)⟩⟩
            rw [HN.it]
            exact (HIM8.it.mono (by omega)).congr (fun y _ => by unfold upd; split <;> rfl)
          case measure => simp [intOf]; omega
        · have hd3 : decide ((j : Int) < (r : Int)) = false := by simp; omega
          rw [if_neg hjr] at HN
          go_wp2_with (at_mapUpdate; refine wpList_im_put _ rfl _ _ _ rfl C (2 * j) (roomK q r M j) x (q : Int) rfl HIM.it rfl rfl WX.it (wf_of (by omega) (by omega)) (by omega) ?_; intro w10 him7 hg7; have HIM7 := Kp.mk him7; have HG7 := Kp.mk hg7; clear him7 hg7)
          go_roundw
          case rel =>
            have hsz : C ≤ wr.heap.size := by have := HB9.it.size; have := HC'.it; omega
            exact ⟨j + 1, by omega, by go_num, ⟨by rw [HN.it]; exact HIM7.it.mono (by omega)⟩, ⟨HB9.it.grown HG7.it hsz (fun i hi => by cases hi; omega)⟩⟩
          case measure => simp [intOf]; omega
      have hd2 : decide ((j : Int) < (t : Int)) = false := by simp; omega
      obtain rfl : t = j := by omega
      obtain ⟨w9, rfl⟩ : ∃ w9 : World, w9 = wr := ⟨_, rfl⟩
      have HRF : Kp (roomK q r M t = roomF os ms) := ⟨by unfold roomF; rw [L1.it, ← HT.it, ← TL.it, ← HQ.it, ← HR.it, ← HM.it]⟩
      have R18 : Kp (Rd w8 A1 n1 os) := ⟨R1.it.below (by rw [← HB'.it]; exact BL8.it)⟩
      have R58 : Kp (Rd w8 A5 t T) := ⟨R5.it.below (by rw [← HB'.it]; exact BL8.it)⟩
      have Z9 : Kp (Blk w9 w.heap.size (List.replicate n1 0)) := ⟨(Z5.it.below BL8.it (by have := HB'.it; omega)).below HB9.it (by have := HC'.it; have := HB'.it; omega)⟩
      have G9 : Kp (w8.grownBy w9 (some w.heap.size)) := ⟨grown_any (by rw [← HC'.it]; exact HB9.it)⟩
      have HIM9 : Kp (IM w9 C (2 * t) (roomF os ms)) := ⟨by rw [← HRF.it]; exact HIM.it⟩
      have hgC : w.heap.size < C := by have := HC'.it; have := HB'.it; omega
      have hC8 : C ≤ w9.heap.size := by have := HB9.it.size; have := HC'.it; omega
      have RB : Kp (∀ k x, 0 ≤ (keepS (roomF os ms) os k).2 x ∧ (keepS (roomF os ms) os k).2 x ≤ 1000001) := ⟨fun k x => keepS_bd (B := 1000001) (fun y => by rw [← HRF.it]; have := roomK_bd q r M t y; omega) k x⟩
      clear HIM HB9 hjt hj hd2 R8 HML hqz hrz hrb
      obtain ⟨g, hg⟩ : ∃ g, g = w.heap.size := ⟨_, rfl⟩
      have HGE := Kp.mk hg
      obtain ⟨rm, hrm⟩ : ∃ rm, rm = roomF os ms := ⟨_, rfl⟩
      have HRM := Kp.mk hrm
      rw [← hrm] at HIM9 RB
      rw [← hg] at Z9 G9 hgC
      clear hg hrm
      go_wp2
      rw [← HGE.it]
      go_loopw [80] (fun i wr => ∃ k : Nat, k ≤ n1 ∧ i = .int .i64 k ∧ Kp (Blk wr g ((keepS rm os k).1 ++ List.replicate (n1 - k) 0)) ∧ Kp (IM wr C (2 * t + k) (keepS rm os k).2) ∧ Kp (w8.grownBy wr (some g))) (fun i _ => n1 - (intOf i).toNat)
      case atStart => exact ⟨0, by omega, rfl, ⟨by rw [Nat.sub_zero]; exact Z9.it⟩, HIM9, G9⟩
      case round =>
        clear Z9 HIM9 G9
        obtain ⟨k, hk, rfl, HBK, HIM, HG⟩ := hrel
        by_cases hkn : k < n1
        · have hd : decide ((k : Int) < (n1 : Int)) = true := by simp; omega
          obtain ⟨b, o, hA, hlt, hcell⟩ := (R18.it.grown HG.it (by rw [HGE.it]; exact AW1.it)).get hkn
          cases hA
          have hko : k < os.length := by rw [L1.it]; exact hkn
          have WX : Kp (Wf (rd os k)) := ⟨W1.it _ (by rw [rd_lt hko]; exact List.getElem_mem _)⟩
          have hKL := keepS_len rm os k
          have HKL := Kp.mk hKL
          have hcg := HBK.it.cell (j := k) (by rw [told_len hKL hk]; exact hkn)
          have hfz := HBK.it.free k
          obtain ⟨y, hy⟩ : ∃ y, y = (keepS rm os k).2 (rd os k) := ⟨_, rfl⟩
          have hyb := RB.it k (rd os k)
          rw [← hy] at hyb
          obtain ⟨hy0, hy1⟩ := hyb
          have HY := Kp.mk hy
          by_cases hyp : 0 < y
          · have HN := Kp.mk (keepS_next_pos (room := rm) (os := os) (k := k) (by rw [← hy]; exact hyp))
            obtain ⟨x, hx⟩ : ∃ x, x = rd os k := ⟨_, rfl⟩
            rw [← hx] at hcell HN WX HY
            rw [← HY.it] at HN
            have HBK2 : Kp (Blk (wr.setCell ⟨g, k, none⟩ (.int .i64 x)) g (((keepS rm os k).1 ++ [x]) ++ List.replicate (n1 - (k + 1)) 0)) := ⟨by rw [← set_told HKL.it hkn]; exact HBK.it.store k x⟩
            have HIM2 : Kp (IM (wr.setCell ⟨g, k, none⟩ (.int .i64 x)) C (2 * t + k) (keepS rm os k).2) := ⟨HIM.it.kept (grown_set (World.grownBy.refl _ _) _ _) (by intro e; injection e; omega)⟩
            generalize rd ((keepS rm os k).1 ++ List.replicate (n1 - k) 0) k = old at hcg
            clear hx hy hko hKL hlt
            go_wp2_with (first
              | (at_lookup; refine wpList_im_get _ rfl _ _ rfl C (2 * t + k) (keepS rm os k).2 x rfl HIM.it rfl WX.it ?_; rw [← HY.it])
              | (at_lookup; refine wpList_im_get _ rfl _ _ rfl C (2 * t + k) (keepS rm os k).2 x rfl HIM2.it rfl WX.it ?_; rw [← HY.it])
              | (at_mapUpdate; refine wpList_im_put _ rfl _ _ _ rfl C (2 * t + k) (keepS rm os k).2 x (y - 1) rfl HIM2.it rfl rfl WX.it (wf_of (by omega) (by omega)) (by omega) ?_; intro w10 him7 hg7; have HIM7 := Kp.mk him7; have HG7 := Kp.mk hg7; clear him7 hg7))
            go_roundw
            case rel =>
              refine ⟨k + 1, by omega, by go_num, ⟨?_⟩, ⟨?_⟩, ⟨grown_new (grown_set HG.it _ _) HG7.it (by have := HC'.it; omega)⟩⟩
              · rw [HN.it]; exact HBK2.it.kept HG7.it (by intro e; injection e; omega)
              · rw [HN.it]; exact HIM7.it
            case measure => simp [intOf]; omega
          · have HN := Kp.mk (keepS_next_neg (room := rm) (os := os) (k := k) (by rw [← hy]; exact hyp))
            obtain ⟨x, hx⟩ : ∃ x, x = rd os k := ⟨_, rfl⟩
            rw [← hx] at hcell WX HY
            have hd3 : decide (y > 0) = false := by simp; omega
            clear hx hy hko hKL hlt hcg hfz
            go_wp2_with (at_lookup; refine wpList_im_get _ rfl _ _ rfl C (2 * t + k) (keepS rm os k).2 x rfl HIM.it rfl WX.it ?_; rw [← HY.it])
            go_roundw
            case rel => exact ⟨k + 1, by omega, by go_num, ⟨by rw [HN.it]; simp only; rw [← stay_told hkn]; exact HBK.it⟩, ⟨by rw [HN.it]; exact HIM.it.mono (by omega)⟩, HG⟩
            case measure => simp [intOf]; omega
        have hd : decide ((k : Int) < (n1 : Int)) = false := by simp; omega
        obtain rfl : n1 = k := by omega
        obtain ⟨w11, rfl⟩ : ∃ w11 : World, w11 = wr := ⟨_, rfl⟩
        have HSM := Kp.mk (share_fi os ms (by rw [← HT.it, ← TL.it]; omega))
        obtain ⟨L, hL⟩ : ∃ L, L = (keepS rm os n1).1 := ⟨_, rfl⟩
        obtain ⟨rk, hrk⟩ : ∃ rk, rk = (keepS rm os n1).2 := ⟨_, rfl⟩
        have HLL : Kp (L.length = n1) := ⟨by rw [hL]; exact keepS_len rm os n1⟩
        have HFI : Kp (∀ k, k ≤ n1 → Fi T L (fillS T L rk k) k 1000001) := ⟨by
          intro k hk
          refine fillS_ok (by rw [HT.it]; exact team_nodup ms) (by rw [hrk]; exact RB.it n1) ?_ k (by rw [HLL.it]; exact hk)
          rw [hrk, hL, HT.it, HRM.it, ← L1.it]
          exact HSM.it⟩
        have HEND : Kp (share os ms = (fillS T L rk n1).1) := ⟨by unfold share; rw [if_neg (by rw [← HT.it, ← TL.it]; omega), hL, hrk, HT.it, HRM.it, L1.it]⟩
        rw [← hrk] at HIM
        rw [← hL, Nat.sub_self, List.replicate_zero, List.append_nil] at HBK
        clear hL hrk HSM hkn hd hk RB
        go_wp2
        go_loopw [16, 100] (fun s i wr => ∃ k : Nat, k ≤ n1 ∧ i = .int .i64 k ∧ s = .int .i64 ((fillS T L rk k).2.2 : Nat) ∧ Kp (Blk wr g ((fillS T L rk k).1 ++ L.drop k)) ∧ Kp (IM wr C (2 * t + n1 + k) (fillS T L rk k).2.1) ∧ Kp (w8.grownBy wr (some g))) (fun _ i _ => n1 - (intOf i).toNat)
        case atStart => exact ⟨0, by omega, rfl, rfl, ⟨by simpa [fillS] using HBK.it⟩, HIM, HG⟩
        case round =>
          clear HBK HIM HG
          obtain ⟨k, hk, rfl, rfl, HBK, HIM, HG⟩ := hrel
          by_cases hkn : k < n1
          · have hd : decide ((k : Int) < (n1 : Int)) = true := by simp; omega
            have hkL : k < L.length := by rw [HLL.it]; exact hkn
            have hFL := fillS_len T L rk k
            have hcg := HBK.it.cell (j := k) (by rw [fill_len hFL (by omega)]; exact hkL)
            have hfz := HBK.it.free k
            rw [rd_told hFL hkL] at hcg
            have HFL := Kp.mk hFL
            by_cases hz : rd L k = 0
            · obtain ⟨a1, a2, a3, a4⟩ := (HFI.it k hk).next hkL hz
              have hN : fillS T L rk (k + 1) = ((fillS T L rk k).1 ++ [rd T (nxt (fillS T L rk k).2.1 T (fillS T L rk k).2.2)], upd (fillS T L rk k).2.1 (rd T (nxt (fillS T L rk k).2.1 T (fillS T L rk k).2.2)) ((fillS T L rk k).2.1 (rd T (nxt (fillS T L rk k).2.1 T (fillS T L rk k).2.2)) - 1), nxt (fillS T L rk k).2.1 T (fillS T L rk k).2.2) := by
                rw [fillS, if_neg (by omega)]
              have hBD := (HFI.it k hk).bd
              have HSF : Kp (∀ x, L.length = n1 ∧ k < L.length → ((fillS T L rk k).1 ++ L.drop k).set k x = ((fillS T L rk k).1 ++ [x]) ++ L.drop (k + 1)) := ⟨fun x h9 => set_fill HFL.it h9.2⟩
              obtain ⟨J, hJ⟩ : ∃ J, J = nxt (fillS T L rk k).2.1 T (fillS T L rk k).2.2 := ⟨_, rfl⟩
              obtain ⟨F, hF⟩ : ∃ F, F = (fillS T L rk k).2.1 := ⟨_, rfl⟩
              obtain ⟨j0, hj0⟩ : ∃ j0, j0 = (fillS T L rk k).2.2 := ⟨_, rfl⟩
              obtain ⟨P, hP⟩ : ∃ P, P = (fillS T L rk k).1 := ⟨_, rfl⟩
              rw [← hJ] at a1 a2 a3 a4 hN
              rw [← hF] at a3 a4 hN hBD HIM
              rw [← hj0] at a1 a4
              rw [← hP] at hN HBK HSF
              rw [← hj0]
              have hJt : J < t := by rw [TL.it]; exact a2
              have hcz : wr.cell? ⟨g, k, none⟩ = some (.int .i64 0) := by rw [hcg, hz]
              have HN := Kp.mk hN
              have A3 := Kp.mk a3
              have A4 := Kp.mk a4
              have HBD := Kp.mk hBD
              have HKL := Kp.mk hkL
              have R5w := Kp.mk (R58.it.grown HG.it (by rw [HGE.it]; exact AW5.it))
              clear hJ hF hj0 hP hN a2 a3 a4 hBD hcg hz hkL hFL
              go_wp2
              obtain ⟨w12, rfl⟩ : ∃ w12 : World, w12 = wr := ⟨_, rfl⟩
              go_loop [16] (fun s => ∃ j : Nat, j0 ≤ j ∧ j ≤ J ∧ s = .int .i64 j) (fun s => J - (intOf s).toNat)
              case atStart => exact ⟨j0, by omega, a1, rfl⟩
              case round =>
                obtain ⟨j, hj0, hjJ, rfl⟩ := hrel
                obtain ⟨b, o, hA, hlt, hct⟩ := R5w.it.get (k := j) (by omega)
                cases hA
                have hjT : j < T.length := by have := TL.it; omega
                have WX : Kp (Wf (rd T j)) := ⟨by
                  have h9 : rd T j ∈ T := by rw [rd_lt hjT]; exact List.getElem_mem hjT
                  rw [HT.it] at h9 ⊢
                  exact W2.it _ ((team_what ms).2 _ |>.1 h9).1⟩
                by_cases hjl : j < J
                · have HY := Kp.mk (A4.it j hj0 hjl)
                  obtain ⟨x, hx⟩ : ∃ x, x = rd T j := ⟨_, rfl⟩
                  rw [← hx] at hct WX HY
                  clear hx hlt hjT
                  go_wp2_with (at_lookup; refine wpList_im_get _ rfl _ _ rfl C (2 * t + n1 + k) F x rfl HIM.it rfl WX.it ?_; rw [HY.it])
                  go_round
                  case rel => exact ⟨j + 1, by omega, by omega, by go_num⟩
                  case measure => simp [intOf]; omega
                · obtain rfl : J = j := by omega
                  obtain ⟨x, hx⟩ : ∃ x, x = rd T J := ⟨_, rfl⟩
                  have hy3 := A3.it
                  have hyb := HBD.it (rd T J)
                  rw [← hx] at hct WX hy3 hyb HN
                  obtain ⟨y, hy⟩ : ∃ y, y = F x := ⟨_, rfl⟩
                  rw [← hy] at hy3 hyb HN
                  obtain ⟨hy0, hy1⟩ := hyb
                  have HY := Kp.mk hy
                  have hyq : (y == 0) = false := by rw [beq_eq_false_iff_ne]; exact hy3
                  have HBK2 : Kp (Blk (w12.setCell ⟨g, k, none⟩ (.int .i64 x)) g ((P ++ [x]) ++ L.drop (k + 1))) := ⟨by rw [← HSF.it x ⟨HLL.it, HKL.it⟩]; exact HBK.it.store k x⟩
                  have HIM2 : Kp (IM (w12.setCell ⟨g, k, none⟩ (.int .i64 x)) C (2 * t + n1 + k) F) := ⟨HIM.it.kept (grown_set (World.grownBy.refl _ _) _ _) (by intro e; injection e; omega)⟩
                  have hbg : b ≠ g := by rw [HGE.it]; exact AW5.it (by omega) b o rfl
                  have hct2 : (w12.setCell ⟨g, k, none⟩ (.int .i64 x)).cell? ⟨b, o + J, none⟩ = some (.int .i64 x) := by rw [cell_other _ _ _ _ hbg]; exact hct
                  clear hx hy hy3 hlt hjT hjl hjJ
                  go_wp2_with (first
                    | (at_lookup; refine wpList_im_get _ rfl _ _ rfl C (2 * t + n1 + k) F x rfl HIM.it rfl WX.it ?_; rw [← HY.it])
                    | (at_lookup; refine wpList_im_get _ rfl _ _ rfl C (2 * t + n1 + k) F x rfl HIM2.it rfl WX.it ?_; rw [← HY.it])
                    | (at_mapUpdate; refine wpList_im_put _ rfl _ _ _ rfl C (2 * t + n1 + k) F x (y - 1) rfl HIM2.it rfl rfl WX.it (wf_of (by omega) (by omega)) (by omega) ?_; intro w13 him7 hg7; have HIM7 := Kp.mk him7; have HG7 := Kp.mk hg7; clear him7 hg7))
                  go_roundw
                  case rel =>
                    refine ⟨k + 1, by omega, by go_num, by rw [HN.it], ⟨?_⟩, ⟨?_⟩, ⟨grown_new (grown_set HG.it _ _) HG7.it (by have := HC'.it; omega)⟩⟩
                    · rw [HN.it]; exact HBK2.it.kept HG7.it (by intro e; injection e; omega)
                    · rw [HN.it]; exact HIM7.it
                  case measure => simp [intOf]; omega
            · have hzq : (rd L k != 0) = true := by simpa using hz
              have HN : Kp (fillS T L rk (k + 1) = ((fillS T L rk k).1 ++ [rd L k], (fillS T L rk k).2.1, (fillS T L rk k).2.2)) := ⟨by rw [fillS, if_pos hz]⟩
              have HSF : Kp ((fillS T L rk k).1 ++ L.drop k = ((fillS T L rk k).1 ++ [rd L k]) ++ L.drop (k + 1)) := ⟨stay_fill hkL⟩
              obtain ⟨x, hx⟩ : ∃ x, x = rd L k := ⟨_, rfl⟩
              rw [← hx] at hcg hzq HN HSF
              rw [HSF.it] at HBK
              clear hx hz hkL hFL hfz
              go_wp2
              go_roundw
              case rel => exact ⟨k + 1, by omega, by go_num, by rw [HN.it], ⟨by rw [HN.it]; exact HBK.it⟩, ⟨by rw [HN.it]; exact HIM.it.mono (by omega)⟩, HG⟩
              case measure => simp [intOf]; omega
          · have hd : decide ((k : Int) < (n1 : Int)) = false := by simp; omega
            obtain rfl : n1 = k := by omega
            go_wp2
            go_ret
            refine ⟨_, rfl, ?_, ?_⟩
            · have h9 := HBK.it
              rw [List.drop_of_length_le (by rw [HLL.it]; exact Nat.le_refl _), List.append_nil, ← HEND.it] at h9
              have hl9 : (share os ms).length = n1 := by rw [share_len]; exact L1.it
              have h8 := h9.own (base := g) (Nat.le_refl _) (by rw [hl9]; omega)
              rw [hl9] at h8
              rw [← HGE.it]
              exact h8
            · rw [← HGE.it]
              have b1 : Below g w w8 := (by rw [HGE.it]; exact (HB0.it.trans (B5.it.mono (Nat.le_succ _))).trans (BL8.it.mono (by have := HB'.it; omega)))
              exact b1.grown HG.it (by rw [HGE.it]; exact b1.size) (fun j hj => by cases hj; exact Nat.le_refl _)

end
end Go.Proofs.Ytemnhmnompehoaa
