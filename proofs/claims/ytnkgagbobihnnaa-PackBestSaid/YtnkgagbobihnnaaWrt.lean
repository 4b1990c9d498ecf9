/-
  A writer of bits.
-/
import Derived.Test.YtnkgagbobihnnaaBit
import Derived.BigRegion
namespace Go.Proofs.Ytnkgagbobihnnaa
open Go Go.RowKit
attribute [local go_sem ↓] Go.wp_at_zero Go.wp_at_succ

theorem OwnB.blk {W : World} {base n c : Nat} {A : Option Addr} {l : List UInt8} (h : OwnB W base (.slice A n c) l) (hl : 0 < l.length) : ∃ g cur, A = some ⟨g, 0, none⟩ ∧ base ≤ g ∧ n = l.length ∧ W.heap[g]? = some (.cells cur 5 (0, 0)) ∧ cur.size = c ∧ l.length ≤ c ∧ c ≤ maxLen ∧ cur.toList.take l.length = bvs l := by
  unfold OwnB at h
  rcases h.2 with ⟨e, h0⟩ | ⟨g, cap, cur, e, hb, hh, h1, h2, h3, h4⟩
  · omega
  · cases e
    exact ⟨g, cur, rfl, hb, rfl, hh, by omega, h1, h2, by simpa using h4⟩
theorem OwnB.setb {W : World} {base n c g : Nat} {l : List UInt8} (h : OwnB W base (.slice (some ⟨g, 0, none⟩) n c) l) {q : Nat} (hq : q < l.length) (b : UInt8) :
    OwnB (W.setCell ⟨g, q, none⟩ (.int .u8 (b.toNat : Int))) base (.slice (some ⟨g, 0, none⟩) n c) (l.set q b) := by
  obtain ⟨g', cur, hA, hb, hn, hh, hcs, hlc, hcm, hct⟩ := h.blk (by omega)
  cases hA
  have hs := blk_set (o := q) (.int .u8 (b.toNat : Int)) hh
  refine ⟨by simp [bvs_len], .inr ⟨g, c, _, by rw [List.length_set, hn], hb, hs, by rw [List.length_set]; exact hlc, hcm, by simp [hcs], ?_⟩⟩
  rw [List.length_set, Nat.mul_one]
  have e : bvs (l.set q b) = (bvs l).set q (.int .u8 (b.toNat : Int)) := by unfold bvs; rw [List.map_set]
  rw [e, ← hct]
  apply List.ext_getElem?
  intro i
  by_cases hi : i < l.length
  · rw [List.getElem?_take, if_pos hi, List.getElem?_set]
    by_cases hiq : q = i
    · subst hiq
      have hcl : cur.toList.length = c := by simpa using hcs
      rw [if_pos rfl, if_pos (by rw [List.length_take, hcl]; omega), Array.getElem?_toList, Array.getElem?_setIfInBounds_self, if_pos (by omega)]
    · rw [if_neg hiq, List.getElem?_take, if_pos hi, Array.getElem?_toList, Array.getElem?_toList, Array.getElem?_setIfInBounds, if_neg hiq]
  · rw [List.getElem?_take_eq_none (by omega), List.getElem?_eq_none (by rw [List.length_set, List.length_take]; omega)]
/-- Block p is a writer with these bytes; they lie in a row of the call's own; what else lay in w0 is as it was, but p and b0. -/
structure WS (w0 : World) (b0 : Option Nat) (p base : Nat) (w : World) (l : List UInt8) (m : Nat) (A : Option Addr) (n c : Nat) : Prop where
  blk : w.heap[p]? = some (.cells #[.slice A n c, .int .i64 (m : Int)] 103 (0, 0))
  len : n = l.length
  own : OwnB w base (.slice A n c) l
  row : (Value.slice A n c).ownBlock = b0 ∨ ∃ b, (Value.slice A n c).ownBlock = some b ∧ w0.heap.size ≤ b
  pb : p < base
  os : w.os = w0.os
  tape : w.tape = w0.tape
  output : w.output = w0.output
  size : w0.heap.size ≤ w.heap.size
  bs0 : base ≤ w0.heap.size
  same : ∀ i, i < w0.heap.size → i ≠ p → some i ≠ b0 → w.heap[i]? = w0.heap[i]?
theorem WS.cells {w0 : World} {b0 : Option Nat} {p base : Nat} {w : World} {l : List UInt8} {m : Nat} {A : Option Addr} {n c : Nat} (h : WS w0 b0 p base w l m A n c) :
    w.cell? ⟨p, 0, none⟩ = some (.slice A n c) ∧ w.cell? ⟨p, 1, none⟩ = some (.int .i64 (m : Int)) ∧ w.frozen? ⟨p, 0, none⟩ = false ∧ w.frozen? ⟨p, 1, none⟩ = false :=
  ⟨blk_cell h.blk rfl, blk_cell h.blk rfl, blk_free h.blk, blk_free h.blk⟩
theorem WS.last {w0 : World} {b0 : Option Nat} {p base : Nat} {w : World} {l : List UInt8} {m : Nat} {A : Option Addr} {n c : Nat} (h : WS w0 b0 p base w l m A n c) (hn : 0 < n) :
    ∃ g, A = some ⟨g, 0, none⟩ ∧ w.cell? ⟨g, n - 1, none⟩ = some (.int .u8 ((l.getD (l.length - 1) 0).toNat : Int)) ∧ w.frozen? ⟨g, n - 1, none⟩ = false ∧ base ≤ g := by
  have hl : 0 < l.length := by rw [← h.len]; exact hn
  obtain ⟨g, cur, hA, hb, hnl, hh, hcs, hlc, _, hct⟩ := h.own.blk hl
  have e := bvs_get l (j := n - 1) (by omega)
  rw [← hct, List.getElem?_take, if_pos (by omega)] at e
  refine ⟨g, hA, blk_cell hh ?_, blk_free hh, hb⟩
  rw [show (cur[n - 1]? : Option Value) = cur.toList[n - 1]? by simp, e]
  unfold byte
  rw [← h.len]
/-- The last byte and the count are set. -/
theorem WS.put {w0 : World} {b0 : Option Nat} {p base : Nat} {w : World} {l : List UInt8} {m : Nat} {g n c : Nat} (h : WS w0 b0 p base w l m (some ⟨g, 0, none⟩) n c) {q : Nat} (hq : q < l.length) (b : UInt8) (k : Nat) :
    WS w0 b0 p base ((w.setCell ⟨g, q, none⟩ (.int .u8 (b.toNat : Int))).setCell ⟨p, 1, none⟩ (.int .i64 (k : Int))).drew (l.set q b) k (some ⟨g, 0, none⟩) n c := by
  have hbg : base ≤ g := h.own.base_le g rfl
  have hpg : p ≠ g := by have := h.pb; omega
  have h1 : (w.setCell ⟨g, q, none⟩ (.int .u8 (b.toNat : Int))).heap[p]? = some (.cells #[.slice (some ⟨g, 0, none⟩) n c, .int .i64 (m : Int)] 103 (0, 0)) := (other_block w ⟨g, q, none⟩ _ hpg).trans h.blk
  have hg2 : (w.setCell ⟨g, q, none⟩ (.int .u8 (b.toNat : Int))).grownBy ((w.setCell ⟨g, q, none⟩ (.int .u8 (b.toNat : Int))).setCell ⟨p, 1, none⟩ (.int .i64 (k : Int))).drew (some p) := by
    have h9 := grown_set (World.grownBy.refl (w.setCell ⟨g, q, none⟩ (.int .u8 (b.toNat : Int))) (some p)) 1 (.int .i64 (k : Int))
    exact ⟨h9.os, h9.tape, h9.output, h9.size, h9.block⟩
  refine ⟨?_, by rw [List.length_set]; exact h.len, (h.own.setb hq b).kept hg2 (.inl ?_), h.row, h.pb, h.os, h.tape, h.output, by show _ ≤ ((w.setCell _ _).setCell _ _).heap.size; rw [size_set, size_set]; exact h.size, h.bs0, fun i h2 h3 h4 => ?_⟩
  · show ((w.setCell ⟨g, q, none⟩ (.int .u8 (b.toNat : Int))).setCell ⟨p, 1, none⟩ (.int .i64 (k : Int))).heap[p]? = _
    rw [blk_set _ h1]; rfl
  · intro e
    have : g = p := by simpa [Value.ownBlock] using e
    omega
  · show ((w.setCell ⟨g, q, none⟩ _).setCell ⟨p, 1, none⟩ _).heap[i]? = _
    rw [other_block _ _ _ h3]
    rw [other_block _ _ _ (by
      show i ≠ g
      rintro rfl
      rcases h.row with hr | ⟨b', hr, hb'⟩
      · exact h4 (by rw [← hr]; rfl)
      · have : i = b' := by simpa [Value.ownBlock] using hr
        omega)]
    exact h.same i h2 h3 h4
/-- One byte more. -/
theorem WS.more {w0 : World} {b0 : Option Nat} {p base : Nat} {w w1 : World} {l : List UInt8} {m : Nat} {A A1 : Option Addr} {n c c1 : Nat} (h : WS w0 b0 p base w l m A n c) {b : UInt8} (ho : OwnB w1 base (.slice A1 (n + 1) c1) (l ++ [b])) (hg : w.grownBy w1 (Value.slice A n c).ownBlock)
    (hat : (Value.slice A1 (n + 1) c1).ownBlock = (Value.slice A n c).ownBlock ∨ ∃ b, (Value.slice A1 (n + 1) c1).ownBlock = some b ∧ w.heap.size ≤ b) :
    WS w0 b0 p base (w1.setCell ⟨p, 0, none⟩ (.slice A1 (n + 1) c1)) (l ++ [b]) m A1 (n + 1) c1 := by
  have hpl : p < w.heap.size := (Array.getElem?_eq_some_iff.1 h.blk).1
  have hne : some p ≠ (Value.slice A n c).ownBlock := fun e => by have := h.own.base_le p e.symm; have := h.pb; omega
  have h1 : w1.heap[p]? = some (.cells #[.slice A n c, .int .i64 (m : Int)] 103 (0, 0)) := (hg.block p hpl hne).trans h.blk
  have hne1 : (Value.slice A1 (n + 1) c1).ownBlock ≠ some p := fun e => by have := ho.base_le p e; have := h.pb; omega
  refine ⟨?_, by rw [List.length_append, List.length_singleton, h.len], ho.kept (grown_set (World.grownBy.refl w1 (some p)) _ _) (.inl hne1), ?_, h.pb, hg.os.trans h.os, hg.tape.trans h.tape, hg.output.trans h.output, by rw [size_set]; exact Nat.le_trans h.size hg.size, h.bs0, fun i h2 h3 h4 => ?_⟩
  · rw [blk_set _ h1]; rfl
  · rcases hat with hat | ⟨b', hat, hb'⟩
    · rw [hat]; exact h.row
    · exact .inr ⟨b', hat, Nat.le_trans h.size hb'⟩
  · rw [other_block _ _ _ h3, hg.block i (Nat.lt_of_lt_of_le h2 h.size) (fun e => by
      rcases h.row with hr | ⟨b', hr, hb'⟩
      · exact h4 (e.trans hr)
      · rw [hr] at e; injection e with e; omega)]
    exact h.same i h2 h3 h4
/-- Some writer of bits. -/
def WX (w0 : World) (b0 : Option Nat) (p base : Nat) (w : World) (bs : List Nat) : Prop := (∀ d, d ∈ bs → d ≤ 1) ∧ ∃ A n c, WS w0 b0 p base w (pk bs) (bs.length % 8) A n c
theorem pk_next {bs : List Nat} (h : ∀ d, d ∈ bs → d ≤ 1) (d : Nat) : (bs.length % 8 = 0 → pk (bs ++ [d]) = (pk bs ++ [0]).set (pk bs).length (UInt8.ofNat (d * 2 ^ 7))) ∧
    (bs.length % 8 ≠ 0 → pk (bs ++ [d]) = (pk bs).set ((pk bs).length - 1) (UInt8.ofNat (((pk bs).getD ((pk bs).length - 1) 0).toNat + d * 2 ^ (7 - bs.length % 8)))) := by
  have I := pk_inv bs h
  have e : pk (bs ++ [d]) = (pkS (pkF bs) d).1 := by unfold pk; rw [pkF_snoc]
  refine ⟨fun h0 => ?_, fun h0 => ?_⟩
  · rw [e]
    unfold pkS
    rw [I.n, h0, if_pos rfl, List.set_append_right _ _ (Nat.le_refl _), Nat.sub_self]
    rfl
  · rw [e]
    unfold pkS
    rw [I.n, if_neg h0]
    rfl
theorem or_join {l d m : Nat} (hm : m < 8) (hl : l < 256) (hd : d ≤ 1) (h : m ≠ 0 → l % 2 ^ (8 - m) = 0) (h0 : m = 0 → l = 0) : Go.bits .or .u8 (l : Int) ((d : Int) * 2 ^ (7 - m) % 256) = ((UInt8.ofNat (l + d * 2 ^ (7 - m))).toNat : Int) ∧ l + d * 2 ^ (7 - m) < 256 := by
  obtain ⟨P, hP⟩ : ∃ P, P = 2 ^ (7 - m) := ⟨_, rfl⟩
  have hP7 : P ≤ 2 ^ 7 := by rw [hP]; exact Nat.pow_le_pow_right (by omega) (by omega)
  have hP0 : 0 < P := by rw [hP]; exact Nat.two_pow_pos _
  have hdP : d * P ≤ P := by
    have := Nat.mul_le_mul_right P hd
    omega
  have hlm : l % (2 * P) = 0 := by
    rcases Nat.eq_zero_or_pos m with h9 | h9
    · rw [h0 h9]; exact Nat.zero_mod _
    · have e : 2 * P = 2 ^ (8 - m) := by rw [hP, ← Nat.pow_succ']; congr 1; omega
      rw [e]; exact h (by omega)
  have hsum : l + d * P < 256 := by
    obtain ⟨t, ht⟩ : ∃ t, l = 2 * P * t := ⟨l / (2 * P), by have := Nat.div_add_mod l (2 * P); omega⟩
    have h256 : ∃ u, 256 = 2 * P * u := ⟨2 ^ m, by rw [hP, ← Nat.pow_succ', ← Nat.pow_add, show 7 - m + 1 + m = 8 by omega]⟩
    obtain ⟨u, hu⟩ := h256
    have htu : t < u := by
      rw [ht, hu] at hl
      exact Nat.lt_of_mul_lt_mul_left hl
    have : 2 * P * (t + 1) ≤ 2 * P * u := Nat.mul_le_mul_left _ htu
    rw [Nat.mul_succ] at this
    omega
  refine ⟨?_, by rw [← hP]; exact hsum⟩
  rw [← hP]
  have e1 : ((2 : Int) ^ (7 - m)) = (P : Int) := by rw [hP]; simp
  rw [e1]
  have e2 : (d : Int) * (P : Int) % 256 = ((d * P : Nat) : Int) := by
    rw [← Int.natCast_mul]
    omega
  rw [e2, Go.bits_join .u8 8 (by decide) wraps_u8 (8 - m) (l : Int) ((d * P : Nat) : Int) (by omega) ?_ (by omega) (by omega) ?_ (by omega)]
  · rw [UInt8.toNat_ofNat', Nat.mod_eq_of_lt (show l + d * P < 2 ^ 8 from hsum)]
    rfl
  · have e : (2 : Int) ^ (8 - m) = ((2 * P : Nat) : Int) := by
      have : 2 * P = 2 ^ (8 - m) := by rw [hP, ← Nat.pow_succ']; congr 1; omega
      rw [this]; simp
    rw [e]
    exact_mod_cast hlm
  · have e : (2 : Int) ^ (8 - m) = ((2 * P : Nat) : Int) := by
      have : 2 * P = 2 ^ (8 - m) := by rw [hP, ← Nat.pow_succ']; congr 1; omega
      rw [this]; simp
    rw [e]
    have : d * P < 2 * P := by omega
    exact_mod_cast this
section
variable {ops : Array Oper} {rest : List Oper} {o : Oper} {a : Act} {Q : Exit → Act → World → Prop} {W : World}
/-- append of one byte; where the row then lies. -/
theorem app_b1a (hgd : o.guard = none) (s x : Operand)
    (ho : o.op = .call { callee := .builtin .append, args := #[s, x], argTypes := #[29, 29] })
    (base : Nat) (v : Value) (l : List UInt8) (y : Int) (b : UInt8) (hy : y = (b.toNat : Int)) (hs : a.eval s = v) (hx : a.eval x = .slice (some ⟨W.heap.size, 0, none⟩) 1 1)
    (HO : OwnB W base v l) (hbase : base ≤ W.heap.size) (hl : l.length + 1 ≤ 140737488355328)
    (h : ∀ v1 w1, OwnB w1 base v1 (l ++ [b]) → W.grownBy w1 v.ownBlock → (v1.ownBlock = v.ownBlock ∨ ∃ b, v1.ownBlock = some b ∧ W.heap.size ≤ b) → wpList Try.prog ops Q rest (a.put o.dst v1) w1) :
    wpList Try.prog ops Q (o :: rest) a (W.alloc (.cells #[.int .u8 y] 5)) := by
  subst hy
  obtain ⟨i0, hi, hz0, hz1, hz2⟩ := info_parts Try.info5'
  refine wpList_append_own_at (W.alloc (.cells #[.int .u8 (b.toNat : Int)] 5)) hgd s x 29 ho base 5 i0 (.int .u8 0) 1 1 Try.underlying29 hi hz0 hz1 hz2 rfl (by omega) v l.length _ hs (World.ownsRow.alloc HO _) ⟨W.heap.size, 0, none⟩ 1 1 [.int .u8 (b.toNat : Int)] hx rfl
    ?_ (by intro u hu; simp at hu; subst hu; rfl) (by unfold maxLen; omega) (by omega) (by simp; omega) ?_
  · intro j u hj
    match j, hj with
    | 0, hj => simp at hj; subst hj; simp [Addr.add]
  · intro v1 w1 hown hg _ hat
    refine h v1 w1 ?_ (World.grownBy.trans (World.grownBy_alloc W _ _) hg) ?_
    · unfold OwnB
      rw [List.length_append, bvs_app]
      exact hown
    · rcases hat with hat | hat
      · exact .inl hat
      · exact .inr ⟨_, hat, by simp⟩
end
theorem OwnB.long {W : World} {base : Nat} {v : Value} {l : List UInt8} (h : OwnB W base v l) (hl : l.length ≤ 100000000) : ∃ A c, v = .slice A l.length c := by
  obtain ⟨A, c, e, _⟩ := h.form (by omega)
  exact ⟨A, c, e⟩
set_option maxRecDepth 100000 in
set_option maxHeartbeats 8000000 in
theorem bits_any {w0 : World} {b0 : Option Nat} {p base : Nat} {w : World} {bs : List Nat} (h : WX w0 b0 p base w bs) (x many : Nat) (hx : x < 9223372036854775808) (hm : many ≤ 60) (hl : bs.length ≤ 10000000) :
    Calls Try.prog 94 #[.pointer (some ⟨p, 0, none⟩), .int .i64 x, .int .i64 many] w fun e w' => e = .returned (.tuple #[]) ∧ WX w0 b0 p base w' (bs ++ dg x many) := by
  have H := Kp.mk h
  have HL := Kp.mk hl
  clear h hl
  go_enter Try.func94, Try.ntmps94
  go_wp2
  go_loopw [6] (fun i wr => ∃ j t : Nat, j + t = many ∧ i = .int .i64 ((t : Int) - 1) ∧ Kp (WX w0 b0 p base wr (bs ++ (dg x many).take j))) (fun i _ => (intOf i + 1).toNat)
  case atStart => exact ⟨0, many, by omega, rfl, by rw [List.take_zero, List.append_nil]; exact H⟩
  case round =>
    obtain ⟨j, t, hjt, rfl, HX⟩ := hrel
    rcases Nat.eq_zero_or_pos t with h0 | h0
    · subst h0
      have hd5 : decide (((0 : Nat) : Int) - 1 ≥ 0) = false := by decide
      have HE : Kp (WX w0 b0 p base wr (bs ++ dg x many)) := ⟨by
        have h9 := HX.it
        rwa [List.take_of_length_le (by rw [dg_len]; omega)] at h9⟩
      go_wp2
      refine bodyPost_end (results_none rfl _ _ _) rfl ?_
      exact ⟨rfl, HE.it⟩
    · obtain ⟨s, rfl⟩ : ∃ s, t = s + 1 := ⟨t - 1, by omega⟩
      rw [show (((s + 1 : Nat) : Int) - 1) = (s : Int) by omega]
      have hd5 : decide ((s : Int) ≥ 0) = true := by simp
      have HT : Kp (bs ++ (dg x many).take (j + 1) = (bs ++ (dg x many).take j) ++ [x / 2 ^ s % 2]) := ⟨by rw [dg_take x (by omega), show many - 1 - j = s by omega, List.append_assoc]⟩
      obtain ⟨cs, hcs⟩ : ∃ cs, cs = bs ++ (dg x many).take j := ⟨_, rfl⟩
      have HCL : Kp (cs.length ≤ 10000060) := ⟨by rw [hcs, List.length_append, List.length_take, dg_len]; have := HL.it; omega⟩
      rw [← hcs] at HX HT
      clear hcs
      have HBT := Kp.mk HX.it.1
      obtain ⟨A, n, c, hS⟩ := HX.it.2
      have HS := Kp.mk hS
      obtain ⟨c0, c1, f0, f1⟩ := hS.cells
      have I := Kp.mk (pk_inv cs HX.it.1)
      have hn : n = (cs.length + 7) / 8 := by rw [hS.len]; exact I.it.len
      obtain ⟨d, hd⟩ : ∃ d, d = x / 2 ^ s % 2 := ⟨_, rfl⟩
      rw [← hd] at HT
      have hd1 : d ≤ 1 := by omega
      have hand : Go.bits .and .i64 ((x : Int) / 2 ^ s) 1 = (d : Int) := by
        have e : (x : Int) / 2 ^ s = ((x / 2 ^ s : Nat) : Int) := by simp
        have e2 := Nat.div_le_self x (2 ^ s)
        rw [e, hd]
        generalize x / 2 ^ s = Y at e2
        rw [and_one _ (by omega) (by omega)]
        omega
      have HN1 := Kp.mk (pk_next HX.it.1 d)
      have HDD : Kp (∀ y, y ∈ cs ++ [d] → y ≤ 1) := ⟨fun y hy => by
        rcases List.mem_append.1 hy with hy | hy
        · exact HBT.it y hy
        · rw [List.mem_singleton.1 hy]; exact hd1⟩
      clear hS HX hd
      obtain ⟨m, hmm⟩ : ∃ m, m = cs.length % 8 := ⟨_, rfl⟩
      rw [← hmm] at c1 HS HN1
      have hm8 : m < 8 := by omega
      have HM := Kp.mk hmm
      have hnb : n ≤ 2000000 := by have := HCL.it; omega
      have HN := Kp.mk hn
      have HMM : Kp ((cs ++ [d]).length % 8 = (m + 1) % 8) := ⟨by rw [List.length_append, List.length_singleton]; omega⟩
      have hand7 : Go.bits .and .i64 ((m : Int) + 1) 7 = (((m + 1) % 8 : Nat) : Int) := by
        rw [and_seven _ (by omega) (by omega)]; omega
      clear hmm hn
      rcases Nat.eq_zero_or_pos m with hm0 | hm0
      · subst hm0
        have hq : (((0 : Nat) : Int) == 0) = true := by decide
        have HBZ : Kp (base ≤ wr.heap.size) := ⟨Nat.le_trans HS.it.bs0 HS.it.size⟩
        have HPL : Kp (n = (pk cs).length) := ⟨HS.it.len⟩
        have HNL : Kp ((pk cs).length + 1 ≤ 140737488355328) := ⟨by rw [← HPL.it]; omega⟩
        have HPN := Kp.mk (HN1.it.1 rfl)
        have hpb : p < base := HS.it.pb
        have hpw : p < wr.heap.size := by have := HBZ.it; omega
        go_wp2_with (refine app_b1a rfl (.tmp 22) (.tmp 23) rfl base (.slice A n c) (pk cs) 0 0 rfl rfl rfl HS.it.own HBZ.it HNL.it ?_
                     intro v1 w1 hn1 hg1 hat1
                     obtain ⟨A1, c9, hv1⟩ := hn1.long (by rw [List.length_append, List.length_singleton, ← HPL.it]; omega)
                     rw [List.length_append, List.length_singleton, ← HPL.it] at hv1
                     subst hv1
                     have HS2 := Kp.mk (HS.it.more hn1 hg1 hat1)
                     have hb1 : w1.heap[p]? = some (.cells #[.slice A n c, .int .i64 ((0 : Nat) : Int)] 103 (0, 0)) := (hg1.block p hpw (fun e => by have := HS.it.own.base_le p e.symm; omega)).trans HS.it.blk
                     have d0 := blk_cell (o := 0) hb1 rfl
                     have d0f : w1.frozen? ⟨p, 0, none⟩ = false := blk_free hb1
                     clear hn1 hg1 hat1 hb1)
        clear d0 d0f
        generalize hW2 : w1.setCell ⟨p, 0, none⟩ (.slice A1 (n + 1) c9) = w2 at HS2 ⊢
        clear hW2 c0 c1 f0 f1
        obtain ⟨c0, c1, f0, f1⟩ := HS2.it.cells
        obtain ⟨g, hA, hcl, hfl, hgb⟩ := HS2.it.last (by omega)
        subst hA
        rw [Nat.add_sub_cancel] at hcl hfl
        have hl0 : ((pk cs ++ [0]).getD ((pk cs ++ [0]).length - 1) 0).toNat = 0 := by
          rw [List.length_append, List.length_singleton, Nat.add_sub_cancel, List.getD_eq_getElem?_getD, List.getElem?_append_right (Nat.le_refl _), Nat.sub_self]
          rfl
        rw [hl0] at hcl
        obtain ⟨hor, hsum⟩ := or_join (l := 0) (d := d) (m := 0) (by omega) (by omega) hd1 (fun h9 => absurd rfl h9) (fun _ => rfl)
        rw [Nat.zero_add] at hor
        obtain ⟨nb, hnb'⟩ : ∃ nb, nb = UInt8.ofNat (d * 2 ^ (7 - 0)) := ⟨_, rfl⟩
        rw [← hnb'] at hor
        have e128 : (d : Int) * 2 ^ (7 - 0) % 256 = (d : Int) * 128 := by show (d : Int) * 128 % 256 = _; omega
        rw [e128] at hor
        have hor2 : Go.bits .or .u8 0 ((d : Int) * 128) = (nb.toNat : Int) := hor
        have hand71 : Go.bits .and .i64 1 7 = 1 := by decide
        clear e128 hor hand7
        have HF : Kp (WX w0 b0 p base (((w2.setCell ⟨g, n, none⟩ (.int .u8 (nb.toNat : Int))).setCell ⟨p, 1, none⟩ (.int .i64 1))).drew (cs ++ [d])) := ⟨HDD.it, _, _, _, by
          have e : pk (cs ++ [d]) = (pk cs ++ [0]).set n nb := by rw [HPN.it, HPL.it, hnb']
          rw [e, HMM.it]
          exact HS2.it.put (by rw [List.length_append, List.length_singleton, ← HPL.it]; omega) nb ((0 + 1) % 8)⟩
        have hpg : ¬ p = g := by omega
        have hgp : ¬ g = p := by omega
        clear hl0 hnb' hsum
        go_region
        all_goals
          go_wp2
          go_roundw
          case rel => exact ⟨j + 1, s, by omega, rfl, ⟨by rw [HT.it]; exact HF.it⟩⟩
          case measure => simp [intOf]
      · have hq : ((m : Int) == 0) = false := by simp; omega
        obtain ⟨g, hA, hcl, hfl, hgb⟩ := WS.last HS.it (by rw [HN.it]; have := HM.it; omega)
        subst hA
        obtain ⟨q, hq9⟩ : ∃ q, n = q + 1 := ⟨n - 1, by have := HN.it; have := HM.it; omega⟩
        subst hq9
        rw [Nat.add_sub_cancel] at hcl hfl
        have hlb := ((pk cs).getD ((pk cs).length - 1) 0).toNat_lt
        have HLOW : ((pk cs).getD ((pk cs).length - 1) 0).toNat % 2 ^ (8 - m) = 0 := by
          have h9 := I.it.low (by rw [← HM.it]; omega)
          rwa [← HM.it] at h9
        have HPN := HN1.it.2 (by omega)
        have HLQ : Kp ((pk cs).length = q + 1) := ⟨HS.it.len.symm⟩
        obtain ⟨last, hlast⟩ : ∃ last, last = ((pk cs).getD ((pk cs).length - 1) 0).toNat := ⟨_, rfl⟩
        rw [← hlast] at hcl hlb HLOW HPN
        obtain ⟨hor, hsum⟩ := or_join hm8 hlb hd1 (fun _ => HLOW) (fun h9 => by omega)
        obtain ⟨nb, hnb'⟩ : ∃ nb, nb = UInt8.ofNat (last + d * 2 ^ (7 - m)) := ⟨_, rfl⟩
        rw [← hnb'] at hor HPN
        have HF : Kp (WX w0 b0 p base (((wr.setCell ⟨g, q, none⟩ (.int .u8 (nb.toNat : Int))).setCell ⟨p, 1, none⟩ (.int .i64 (((m + 1) % 8 : Nat) : Int)))).drew (cs ++ [d])) := ⟨HDD.it, _, _, _, by
          rw [HPN, HMM.it, HLQ.it, Nat.add_sub_cancel]
          exact HS.it.put (by rw [HLQ.it]; omega) nb ((m + 1) % 8)⟩
        rw [show (((m + 1) % 8 : Nat) : Int) = ((m : Int) + 1) % 8 by omega] at HF
        have hpg : ¬ p = g := by have := HS.it.pb; omega
        have hgp : ¬ g = p := fun e => hpg e.symm
        clear hlast hlb HLOW hnb' hsum HPN
        go_wp2
        go_region
        all_goals
          go_wp2
          go_roundw
          case rel => exact ⟨j + 1, s, by omega, rfl, ⟨by rw [HT.it]; exact HF.it⟩⟩
          case measure => simp [intOf]
end Go.Proofs.Ytnkgagbobihnnaa
