/-
  Rows of words; Parts of the program and of the reference.
-/
import Derived.Test.YtcmkjoepndbicaaFnd
namespace Go.Proofs.Ytcmkjoepndbicaa
open Go Go.RowKit

/-- A slice of words, as read. -/
structure RW (w : World) (A : Option Addr) (n : Nat) (us : List (BitVec 64)) : Prop where
  len : us.length = n
  bd : n ≤ 1000000
  cells : 0 < n → ∃ b o, A = some ⟨b, o, none⟩ ∧ b < w.heap.size ∧ ∀ (i : Nat) (u : BitVec 64), us[i]? = some u → w.cell? ⟨b, o + i, none⟩ = some (.int .u64 (u.toNat : Int))
theorem RW.below {w w' : World} {A : Option Addr} {n : Nat} {us : List (BitVec 64)} (h : RW w A n us) (hb : Below w.heap.size w w') : RW w' A n us :=
  ⟨h.len, h.bd, fun hn => by
    obtain ⟨b, o, e, hl, hc⟩ := h.cells hn
    exact ⟨b, o, e, Nat.lt_of_lt_of_le hl hb.size, fun i u hu => (hb.cell (p := ⟨b, o + i, none⟩) hl).trans (hc i u hu)⟩⟩
theorem RW.get {w : World} {A : Option Addr} {n : Nat} {us : List (BitVec 64)} (h : RW w A n us) {i : Nat} {u : BitVec 64} (hu : us[i]? = some u) : ∃ b o, A = some ⟨b, o, none⟩ ∧ b < w.heap.size ∧ w.cell? ⟨b, o + i, none⟩ = some (.int .u64 (u.toNat : Int)) := by
  have hi : i < us.length := (List.getElem?_eq_some_iff.1 hu).1
  obtain ⟨b, o, e, hl, hc⟩ := h.cells (by rw [← h.len]; omega)
  exact ⟨b, o, e, hl, hc i u hu⟩
theorem Try.info22' : (Try.prog.info? 22).map (fun i => (i.zero, i.size, i.bytes)) = some (some (.int .u64 0), 1, 8) := by kernel_rfl
def wvs (us : List (BitVec 64)) : List Value := us.map fun u => .int .u64 (u.toNat : Int)
/-- A row of words that is the call's own. -/
def OwnW (W : World) (base : Nat) (v : Value) (us : List (BitVec 64)) : Prop := W.ownsRow base 22 1 v us.length (wvs us)
theorem OwnW.nil (W : World) (base : Nat) : OwnW W base (.slice none 0 0) [] := World.ownsRow_nil _ _ _ _
theorem OwnW.lt {W : World} {base : Nat} {v : Value} {us : List (BitVec 64)} (h : OwnW W base v us) (k : Nat) (hk : v.ownBlock = some k) : base ≤ k ∧ k < W.heap.size := by
  unfold OwnW at h
  exact h.lt k hk
theorem OwnW.below {W W' : World} {base : Nat} {v : Value} {us : List (BitVec 64)} (h : OwnW W base v us) (hb : Below W.heap.size W W') : OwnW W' base v us :=
  World.ownsRow.kept h (⟨hb.os, hb.tape, hb.output, hb.size, fun i hi _ => hb.block i hi⟩ : W.grownBy W' none) (by cases v.ownBlock <;> simp)
theorem OwnW.form {W : World} {base : Nat} {v : Value} {us : List (BitVec 64)} (h : OwnW W base v us) (hl : us.length ≤ 1000000) :
    ∃ A c, v = .slice A us.length c ∧ RW W A us.length us := by
  unfold OwnW at h
  rcases h.2 with ⟨rfl, h0⟩ | ⟨g, cap, cur, rfl, hb, hh, h1, h2, h3, h4⟩
  · obtain rfl : us = [] := List.eq_nil_of_length_eq_zero h0
    exact ⟨none, 0, rfl, rfl, hl, fun h => absurd h (Nat.lt_irrefl _)⟩
  · refine ⟨_, cap, rfl, rfl, hl, fun _ => ⟨g, 0, rfl, (Array.getElem?_eq_some_iff.1 hh).1, fun i u hu => ?_⟩⟩
    have hi : i < us.length := (List.getElem?_eq_some_iff.1 hu).1
    rw [Nat.zero_add]
    refine blk_cell hh ?_
    have e : (wvs us)[i]? = some (.int .u64 (u.toNat : Int)) := by unfold wvs; rw [List.getElem?_map, hu]; rfl
    rw [← h4, List.getElem?_take, if_pos (by omega)] at e
    simpa using e
theorem below_ownW {B base : Nat} {w0 wr w1 : World} {v : Value} {us : List (BitVec 64)} (hW : Below B w0 wr) (hsz : B ≤ wr.heap.size) (hown : OwnW wr base v us) (hbase : B ≤ base) (hg : wr.grownBy w1 v.ownBlock) : Below B w0 w1 :=
  hW.grown hg hsz (fun k hk => Nat.le_trans hbase (hown.lt k hk).1)
section
variable {ops : Array Oper} {rest : List Oper} {o : Oper} {a : Act} {Q : Exit → Act → World → Prop} {W : World}
/-- append of one word. -/
theorem app_w1 (hgd : o.guard = none) (s x : Operand)
    (ho : o.op = .call { callee := .builtin .append, args := #[s, x], argTypes := #[63, 63] })
    (base : Nat) (v : Value) (l : List (BitVec 64)) (u : BitVec 64) (hs : a.eval s = v) (hx : a.eval x = .slice (some ⟨W.heap.size, 0, none⟩) 1 1)
    (HO : OwnW W base v l) (hbase : base ≤ W.heap.size) (hl : l.length + 1 ≤ 1000000)
    (h : ∀ v1 w1, OwnW w1 base v1 (l ++ [u]) → W.grownBy w1 v.ownBlock → wpList Try.prog ops Q rest (a.put o.dst v1) w1) :
    wpList Try.prog ops Q (o :: rest) a (W.alloc (.cells #[.int .u64 (u.toNat : Int)] 22)) := by
  obtain ⟨i0, hi, hz0, hz1, hz2⟩ := info_parts Try.info22'
  refine wpList_append_own_at (W.alloc (.cells #[.int .u64 (u.toNat : Int)] 22)) hgd s x 63 ho base 22 i0 _ 1 8 Try.underlying63 hi hz0 hz1 hz2 rfl (by omega) v l.length _ hs (World.ownsRow.alloc HO _) ⟨W.heap.size, 0, none⟩ 1 1 [.int .u64 (u.toNat : Int)] hx rfl
    ?_ (by intro u hu; simp at hu; subst hu; rfl) (by unfold maxLen; omega) (by omega) (by simp; omega) ?_
  · intro j u hj
    match j, hj with
    | 0, hj => cases hj; rw [add_plain]; exact blk_cell (blk_new _ _) rfl
  · intro v1 w1 hown hg _ hat
    refine h v1 w1 ?_ (World.grownBy.trans (World.grownBy_alloc W _ _) hg)
    unfold OwnW
    rw [List.length_append]
    unfold wvs
    rw [List.map_append]
    exact hown
end
set_option maxHeartbeats 4000000 in
theorem equalw_same (A B : Option Addr) (n c d : Nat) (us : List (BitVec 64)) (w : World) (h1 : RW w A n us) (h2 : RW w B n us) :
    Calls Try.prog 36 #[.slice A n c, .slice B n d] w fun e w' => e = .returned (.bool true) ∧ Below w.heap.size w w' := by
  have hbd := h1.bd
  have HL := Kp.mk h1.len
  have H1 := Kp.mk h1
  have H2 := Kp.mk h2
  clear h1 h2
  have hne : ((n : Int) != (n : Int)) = false := by simp
  go_enter Try.func36, Try.ntmps36
  go_wp2
  go_loopw [13] (fun i wr => ∃ k : Nat, k ≤ n ∧ i = .int .i64 k ∧ Kp (Below w.heap.size w wr)) (fun i _ => n - (intOf i).toNat)
  case atStart => exact ⟨0, by omega, rfl, ⟨Below.refl _ _⟩⟩
  case round =>
    obtain ⟨k, hk, rfl, HB⟩ := hrel
    by_cases hkn : k < n
    · obtain ⟨u, hu⟩ : ∃ u, us[k]? = some u := ⟨_, List.getElem?_eq_getElem (by rw [HL.it]; exact hkn)⟩
      obtain ⟨b1, o1, hA, l1, f1⟩ := (H1.it.below HB.it).get hu
      obtain ⟨b2, o2, hB, l2, f2⟩ := (H2.it.below HB.it).get hu
      cases hA
      cases hB
      obtain ⟨y, hy⟩ : ∃ y : Int, y = (u.toNat : Int) := ⟨_, rfl⟩
      rw [← hy] at f1 f2
      have hx' : (y != y) = false := by simp
      have hd : decide ((k : Int) < (n : Int)) = true := by simp; omega
      clear hu hy
      go_wp2
      go_quiet (fail)
      go_wp2
      go_roundw
      case rel => exact ⟨k + 1, by omega, by go_num, ⟨below_drewN HB.it _⟩⟩
      case measure => simp [intOf]; omega
    · obtain rfl : k = n := by omega
      go_wp2
      go_ret
      exact ⟨rfl, HB.it⟩
/-- The digests of the parts of a part. -/
def partsU (ka kb : BitVec 64) (path : List Int) (l : List Pr) : List (BitVec 64) := (List.range 16).map fun i => digU ka kb (3 - path.length) (kid ka kb path.length i (inP ka kb path l))
theorem partsU_len (ka kb : BitVec 64) (path : List Int) (l : List Pr) : (partsU ka kb path l).length = 16 := by unfold partsU; simp
/-- What Parts gives. -/
def PartsP (ok : Bool) (us : List (BitVec 64)) (w : World) (e : Ending) (w' : World) : Prop :=
  (ok = true → ∃ A n c, e = .returned (.tuple #[.slice A n c, .int .i64 0]) ∧ RW w' A n us) ∧ (ok = false → e = .returned (.tuple #[.slice none 0 0, .int .i64 1])) ∧ Below w.heap.size w w'
theorem okP_34 (path : List Int) : okP path 3 = (okP path 4 && decide (path.length ≠ 4)) := by
  unfold okP
  cases path.all okD
  · simp
  · rw [Bool.and_true, Bool.and_true, Bool.eq_iff_iff, Bool.and_eq_true, decide_eq_true_eq, decide_eq_true_eq, decide_eq_true_eq]
    omega
theorem madeW : madeCells #[.int .u64 0] 16 = fans fun _ => .int .u64 0 := by
  apply Array.toList_inj.1
  rw [toList_madeCells_one]
  rfl
theorem make_words (w : World) : (Instr.makeSlice 63 (.int .i64 16) (.int .i64 16)).run Try.prog w = .ok (.slice (some ⟨w.heap.size, 0, none⟩) 16 16) (w.alloc (.cells (fans fun _ => .int .u64 0) 22)) := by
  obtain ⟨i0, hi, hz0, hz1, hz2⟩ := info_parts Try.info22'
  have hr := run_make (P := Try.prog) w 63 22 i0 (.int .u64 0) Try.underlying63 hi hz0 .i64 .i64 16 16 (by omega) (by omega) (by rw [hz2]; decide) (by decide)
  rw [hz1] at hr
  rw [← madeW]
  exact hr
/-- The row of Parts under way. -/
def FU (us : List (BitVec 64)) (k i : Nat) : Value := if i < k then .int .u64 ((us.getD i 0).toNat : Int) else .int .u64 0
theorem FU_zero (us : List (BitVec 64)) : FU us 0 = fun _ => .int .u64 0 := by funext i; simp [FU]
theorem FU_succ (us : List (BitVec 64)) (k : Nat) : upd (FU us k) k (.int .u64 ((us.getD k 0).toNat : Int)) = FU us (k + 1) := by
  funext i
  unfold upd FU
  by_cases h : i = k
  · subst h
    rw [if_pos rfl, if_pos (by omega)]
  · rw [if_neg h]
    by_cases h2 : i < k
    · rw [if_pos h2, if_pos (by omega)]
    · rw [if_neg h2, if_neg (by omega)]
theorem rw_of_fans {w : World} {X : Nat} {us : List (BitVec 64)} {F : Nat → Value} (h : w.heap[X]? = some (.cells (fans F) 22 (0, 0))) (hl : us.length = 16) (hF : ∀ i, i < 16 → F i = .int .u64 ((us.getD i 0).toNat : Int)) : RW w (some ⟨X, 0, none⟩) 16 us :=
  ⟨hl, by decide, fun _ => ⟨X, 0, rfl, (Array.getElem?_eq_some_iff.1 h).1, fun i u hu => by
    have hi : i < 16 := by have := (List.getElem?_eq_some_iff.1 hu).1; omega
    rw [Nat.zero_add]
    refine blk_cell h ?_
    rw [fans_get F hi, hF i hi, List.getD_eq_getElem?_getD, hu]
    rfl⟩⟩
set_option maxRecDepth 100000 in
set_option maxHeartbeats 8000000 in
theorem parts_any (ka kb : BitVec 64) (S : Nat → Prop) (l : List Pr) (t : Nat) (A : Option Addr) (m c : Nat) (path : List Int) (w : World) (T : TreeS ka kb S l t w) (P : Rd w A m path) (hS : ∀ b, w.heap.size ≤ b → S b) :
    Calls Try.prog 32 #[.pointer (some ⟨t, 0, none⟩), .slice A m c] w fun e w' => PartsP (okP path 3) (partsU ka kb path l) w e w' := by
  have hbd := P.bd
  have HL := Kp.mk P.len
  have HF := Kp.mk (find_any ka kb S l t A m c path w T P hS)
  have H34 := Kp.mk (okP_34 path)
  clear T P hS
  obtain ⟨us, hus⟩ : ∃ us, us = partsU ka kb path l := ⟨_, rfl⟩
  rw [← hus]
  have HUE := Kp.mk hus
  clear hus
  go_enter Try.func32, Try.ntmps32
  go_wp2_with fail
  go_at_call 62
  refine HF.it.mono ?_
  rintro e w1 ⟨h1, h2, hb1⟩
  have B1 := Kp.mk hb1
  clear hb1 HF
  cases hok : okP path 4 with
  | false =>
    obtain rfl := h2 hok
    have HO : Kp (okP path 3 = false) := ⟨by rw [H34.it, hok]; rfl⟩
    have he : ((1 : Int) != 0) = true := by decide
    clear h1 h2 hok
    go_wp2
    go_ret2
    exact ⟨(fun h => by rw [HO.it] at h; cases h), fun _ => rfl, B1.it⟩
  | true =>
    obtain ⟨px, rfl, tx⟩ := h1 hok
    have TX := Kp.mk tx
    have hm4 : m ≤ 4 := by
      unfold okP at hok
      rw [HL.it] at hok
      have := (Bool.and_eq_true_iff.1 hok).1
      simpa using this
    have he : ((0 : Int) != 0) = false := by decide
    by_cases hm : m = 4
    · subst hm
      have HO : Kp (okP path 3 = false) := ⟨by rw [H34.it, HL.it]; simp⟩
      clear h1 h2 hok tx
      go_wp2
      go_ret2
      exact ⟨(fun h => by rw [HO.it] at h; cases h), fun _ => rfl, B1.it⟩
    · have HO : Kp (okP path 3 = true) := ⟨by rw [H34.it, hok, HL.it]; simpa using hm⟩
      have hq4 : ((m : Int) == 4) = false := by rw [beq_eq_false_iff_ne]; omega
      obtain ⟨f, hf⟩ : ∃ f, 4 - m = f + 1 := ⟨3 - m, by omega⟩
      have hf1 : 3 - m = f := by omega
      have hf2 : 3 - f = m := by omega
      have HUS : Kp (∀ i : Nat, i < 16 → us.getD i 0 = digU ka kb f (kid ka kb (3 - f) i (inP ka kb path l))) := ⟨fun i hi => by
        rw [HUE.it]
        unfold partsU
        rw [List.getD_eq_getElem?_getD, List.getElem?_map, List.getElem?_range hi, HL.it, hf1, hf2]
        rfl⟩
      have HUL : Kp (us.length = 16) := ⟨by rw [HUE.it]; exact partsU_len ka kb path l⟩
      clear hf1 hf2
      rw [hf] at tx
      obtain ⟨AP, nP, cP, hp, hcase⟩ := tr_zero_or tx
      have HP := Kp.mk hp
      have HC := Kp.mk hcase
      have hpl := (Array.getElem?_eq_some_iff.1 hp).1
      clear h1 h2 hok tx hp hcase hf TX
      have hmk := make_words w1
      go_upto_region 7 with fail
      refine wp_on (fun wx => wx.heap[w1.heap.size]? = some (.cells (fans (FU us 0)) 22 (0, 0)) ∧ Below w1.heap.size w1 wx) ⟨by rw [FU_zero]; exact blk_new _ _, (Below.refl _ _).alloc (Nat.le_refl _) _⟩ (fun w2 hx => ?_)
      obtain ⟨h2, hb2⟩ := hx
      have E2 := Kp.mk h2
      have B2 := Kp.mk hb2
      have p1 : w2.cell? ⟨px, 1, none⟩ = some (.slice AP nP cP) := (hb2.cell (p := ⟨px, 1, none⟩) hpl).trans (blk_cell HP.it rfl)
      have hpl2 : px < w2.heap.size := Nat.lt_of_lt_of_le hpl hb2.size
      clear h2 hb2 hmk
      rcases HC.it with ⟨hE, hn0⟩ | ⟨hn0, g, hA, hgl, hk⟩
      · subst hn0
        have HE := Kp.mk hE
        have HR : Kp (RW w2 (some ⟨w1.heap.size, 0, none⟩) 16 us) := ⟨rw_of_fans E2.it HUL.it (fun i hi => by rw [HUS.it i hi, HE.it, FU_zero]; show _ = Value.int .u64 ((digU ka kb f []).toNat : Int); rw [digU_nil]; rfl)⟩
        clear hE HC
        go_wp2
        go_loopw [31] (fun i wr => i = .int .i64 0 ∧ wr = w2) (fun i _ => 0)
        case atStart => exact ⟨rfl, rfl⟩
        case round =>
          obtain ⟨rfl, rfl⟩ := hrel
          go_wp2
          go_ret2
          exact ⟨fun _ => ⟨_, _, _, rfl, HR.it⟩, (fun h => by rw [HO.it] at h; cases h), B1.it.trans (B2.it.mono B1.it.size)⟩
      · subst hn0
        subst hA
        have HK := Kp.mk hk
        have HGL := Kp.mk hgl
        clear hk hgl HC p1 hpl2
        have p1 : w2.cell? ⟨px, 1, none⟩ = some (.slice (some ⟨g, 0, none⟩) 16 cP) := (B2.it.cell (p := ⟨px, 1, none⟩) hpl).trans (blk_cell HP.it rfl)
        have hpl2 : px < w2.heap.size := Nat.lt_of_lt_of_le hpl B2.it.size
        go_wp2
        clear p1 hpl2
        go_loopw [31] (fun i wr => ∃ k : Nat, k ≤ 16 ∧ i = .int .i64 k ∧ Kp (wr.heap[w1.heap.size]? = some (.cells (fans (FU us k)) 22 (0, 0))) ∧ Kp (Below w1.heap.size w1 wr)) (fun i _ => 16 - (intOf i).toNat)
        case atStart => exact ⟨0, by omega, rfl, E2, B2⟩
        case round =>
          clear E2 B2
          obtain ⟨k, hk, rfl, E, B⟩ := hrel
          by_cases hk16 : k < 16
          · have hd : decide ((k : Int) < 16) = true := by simp; omega
            have hkz : (k : Int) < 16 := by omega
            obtain ⟨q, hq, hqt⟩ := HK.it k hk16
            have g0 : wr.cell? ⟨g, k, none⟩ = some (.pointer (some ⟨q, 0, none⟩)) := (B.it.cell (p := ⟨g, k, none⟩) HGL.it).trans hq
            have hgl : g < wr.heap.size := Nat.lt_of_lt_of_le HGL.it B.it.size
            obtain ⟨hql, q0⟩ := (hqt.below B.it).sum
            rw [← HUS.it k hk16] at q0
            have y0 : wr.cell? ⟨w1.heap.size, k, none⟩ = some (FU us k k) := blk_cell E.it (fans_get _ hk16)
            have u0 : wr.frozen? ⟨w1.heap.size, k, none⟩ = false := blk_free E.it
            have hXl := (Array.getElem?_eq_some_iff.1 E.it).1
            have HN : Kp ((wr.setCell ⟨w1.heap.size, k, none⟩ (.int .u64 ((us.getD k 0).toNat : Int))).heap[w1.heap.size]? = some (.cells (fans (FU us (k + 1))) 22 (0, 0))) := ⟨by rw [blk_set _ E.it, fans_set _ hk16, FU_succ]⟩
            obtain ⟨U, hU⟩ : ∃ U : Int, U = ((us.getD k 0).toNat : Int) := ⟨_, rfl⟩
            rw [← hU] at q0 HN
            clear hq hqt hU
            go_wp2
            go_roundw
            case rel => exact ⟨k + 1, by omega, by go_num, HN, ⟨B.it.setCell (Nat.le_refl _) _⟩⟩
            case measure => simp [intOf]; omega
          · obtain rfl : k = 16 := by omega
            have hd : decide (((16 : Nat) : Int) < 16) = false := by decide
            have HR : Kp (RW wr (some ⟨w1.heap.size, 0, none⟩) 16 us) := ⟨rw_of_fans E.it HUL.it (fun i hi => by unfold FU; rw [if_pos hi])⟩
            go_wp2
            go_ret2
            exact ⟨fun _ => ⟨_, _, _, rfl, HR.it⟩, (fun h => by rw [HO.it] at h; cases h), B1.it.trans (B.it.mono B1.it.size)⟩
set_option maxRecDepth 100000 in
set_option maxHeartbeats 8000000 in
theorem rparts_any (ka kb : BitVec 64) (S0 : Nat → Prop) (t : Nat) (l : List Pr) (hl : l.length ≤ 1000) (hs : ∀ p ∈ l, p.1.size + p.2.size ≤ 140737488351232) (A : Option Addr) (m c : Nat) (path : List Int) (w : World) (T : RTr ka kb S0 l t w) (P : Rd w A m path) (hnil : A = none → c = 0) :
    Calls Try.prog 33 #[.pointer (some ⟨t, 0, none⟩), .slice A m c] w fun e w' => PartsP (okP path 3) (partsU ka kb path l) w e w' := by
  have HPL := Kp.mk P.len
  have HP := Kp.mk P
  have HT := Kp.mk T
  have HPN := Kp.mk hnil
  have HR := Kp.mk (right_any A m c path 3 w P)
  have HDG := Kp.mk (rdig_any ka kb S0 t l hl hs)
  clear T P hnil hl hs
  obtain ⟨us, hus⟩ : ∃ us, us = partsU ka kb path l := ⟨_, rfl⟩
  rw [← hus]
  have HUE := Kp.mk hus
  clear hus
  go_enter Try.func33, Try.ntmps33
  go_wp2_with fail
  go_at_call 63
  refine HR.it.mono ?_
  rintro e w1 ⟨rfl, hb1⟩
  have B1 := Kp.mk hb1
  clear hb1 HR
  cases hok : okP path 3 with
  | false =>
    have HO := Kp.mk hok
    clear hok
    go_wp2
    go_ret2
    exact ⟨(fun h => by rw [HO.it] at h; cases h), fun _ => rfl, B1.it⟩
  | true =>
    have HO := Kp.mk hok
    have hm3 : m ≤ 3 := by
      unfold okP at hok
      rw [HPL.it] at hok
      have := (Bool.and_eq_true_iff.1 hok).1
      simpa using this
    have HIH := Kp.mk (HDG.it (3 - m) (by omega))
    have HMF : Kp (m + 1 = 4 - (3 - m)) := ⟨by omega⟩
    have HUS : Kp (∀ i : Nat, i < 16 → us[i]? = some (digU ka kb (3 - m) (inP ka kb (path ++ [(i : Int)]) l))) := ⟨fun i hi => by
      rw [HUE.it]
      unfold partsU
      rw [List.getElem?_map, List.getElem?_range hi, HPL.it, inP_snoc, HPL.it]
      rfl⟩
    have HUL : Kp (us.length = 16) := ⟨by rw [HUE.it]; exact partsU_len ka kb path l⟩
    clear hok HDG
    go_wp2
    go_loopw [6, 11] (fun b i wr => ∃ (d : Nat) (A4 : Option Addr) (c4 : Nat), d ≤ 16 ∧ i = .int .i64 d ∧ b = .slice A4 d c4 ∧ Kp (OwnW wr w.heap.size (.slice A4 d c4) (us.take d)) ∧ Kp (Below w.heap.size w wr)) (fun _ i _ => 16 - (intOf i).toNat)
    case atStart => exact ⟨0, none, 0, by omega, rfl, rfl, ⟨OwnW.nil _ _⟩, B1⟩
    case round =>
      clear B1
      obtain ⟨d, A4, c4, hd16, rfl, rfl, HO4, HB⟩ := hrel
      by_cases hdn : d < 16
      · have hd : decide ((d : Int) < 16) = true := by simp; omega
        have HO0 := Kp.mk (own_empty wr)
        have HB0 : Kp (Below wr.heap.size wr (wr.alloc (.cells #[] 3))) := ⟨(Below.refl _ _).alloc (Nat.le_refl _) _⟩
        have HR0 : Kp (Rd (wr.alloc (.cells #[] 3)) A m path) := ⟨HP.it.below (HB.it.alloc HB.it.size _)⟩
        have HZ0 : Kp (wr.heap.size ≤ (wr.alloc (.cells #[] 3)).heap.size) := ⟨HB0.it.size⟩
        have HN0 : Kp (([] : List Int).length + path.length ≤ 17592186044416) := ⟨by rw [HPL.it]; simp; omega⟩
        have HN1 : Kp (([] ++ path).length + 1 ≤ 17592186044416) := ⟨by rw [List.nil_append, HPL.it]; omega⟩
        have HLL : Kp (([] ++ path ++ [(d : Int)]).length = m + 1) := ⟨by rw [List.length_append, List.nil_append, HPL.it]; rfl⟩
        go_wp2_with (first
          | (refine app_rd rfl (.tmp 16) (.tmp 17) rfl wr.heap.size _ [] A m c path rfl rfl HO0.it HR0.it HPN.it HZ0.it HN0.it ?_; intro v1 w2 ho1 hg1 _; have O1 := Kp.mk ho1; have B1 := Kp.mk (below_own HB0.it HZ0.it HO0.it (Nat.le_refl _) hg1); have Z1 := Kp.mk B1.it.size; clear ho1 hg1)
          | (refine app_own rfl (.tmp 18) (.tmp 20) rfl wr.heap.size v1 _ (d : Int) rfl rfl O1.it Z1.it HN1.it ?_; intro v2 w3 ho2 hg2 _; obtain ⟨A9, c9, hv9, hn9, _, _, hr9⟩ := ho2.form3 (by rw [HLL.it]; omega); rw [HLL.it] at hv9 hr9; subst hv9; have R9 := Kp.mk hr9; have N9 := Kp.mk hn9; have B9 := Kp.mk (below_own B1.it Z1.it O1.it (Nat.le_refl _) hg2); clear ho2 hg2 hr9 hn9)
          | fail)
        have HBW3 : Kp (Below w.heap.size w w3) := ⟨HB.it.trans (B9.it.mono HB.it.size)⟩
        go_at_call 28
        refine (HIH.it A9 (m + 1) c9 _ w3 (HT.it.below HBW3.it) R9.it N9.it HMF.it).mono ?_
        rintro e w5 ⟨rfl, hb5⟩
        rw [List.nil_append]
        have HB5 : Kp (Below wr.heap.size wr w5) := ⟨B9.it.trans (hb5.mono B9.it.size)⟩
        have HBW5 : Kp (Below w.heap.size w w5) := ⟨HB.it.trans (HB5.it.mono HB.it.size)⟩
        have O5 := Kp.mk (HO4.it.below HB5.it)
        have Z5 := Kp.mk HBW5.it.size
        clear hb5 O1 B1 Z1 R9 N9 B9 HBW3
        obtain ⟨U, hU⟩ : ∃ U, U = digU ka kb (3 - m) (inP ka kb (path ++ [(d : Int)]) l) := ⟨_, rfl⟩
        rw [← hU]
        have HTK : Kp (us.take (d + 1) = us.take d ++ [U]) := ⟨by rw [List.take_add_one, HUS.it d hdn, hU]; rfl⟩
        have HLT : Kp ((us.take d).length = d) := ⟨by rw [List.length_take, HUL.it]; omega⟩
        have HN5 : Kp ((us.take d).length + 1 ≤ 1000000) := ⟨by rw [HLT.it]; omega⟩
        have HLN : Kp ((us.take d ++ [U]).length = d + 1) := ⟨by rw [List.length_append, HLT.it]; rfl⟩
        clear hU
        go_wp2_with (refine app_w1 rfl (.tmp 14) (.tmp 23) rfl w.heap.size (.slice A4 d c4) _ U rfl rfl O5.it Z5.it HN5.it ?_; intro v6 w6 ho6 hg6; obtain ⟨A6, c6, hv6, _⟩ := ho6.form (by rw [HLN.it]; omega); rw [HLN.it] at hv6; subst hv6; have O6 := Kp.mk ho6; have B6 := Kp.mk (below_ownW HBW5.it Z5.it O5.it (Nat.le_refl _) hg6); clear ho6 hg6)
        go_roundw
        case rel => exact ⟨d + 1, A6, c6, by omega, by go_num, rfl, ⟨by rw [HTK.it]; exact O6.it⟩, B6⟩
        case measure => simp [intOf]; omega
      · obtain rfl : d = 16 := by omega
        have hd : decide (((16 : Nat) : Int) < 16) = false := by decide
        rw [List.take_of_length_le (by rw [HUL.it]; omega)] at HO4
        obtain ⟨A6, c6, hv6, hr6⟩ := HO4.it.form (by rw [HUL.it]; omega)
        rw [HUL.it] at hv6 hr6
        cases hv6
        have R6 := Kp.mk hr6
        clear hr6
        go_wp2
        go_ret2
        exact ⟨fun _ => ⟨_, _, _, rfl, R6.it⟩, (fun h => by rw [HO.it] at h; cases h), HB.it⟩
end Go.Proofs.Ytcmkjoepndbicaa
