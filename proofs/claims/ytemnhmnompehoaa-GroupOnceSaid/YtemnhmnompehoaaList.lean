/-
  List: all groups in memory of their own. short, made.
-/
import Derived.Test.YtemnhmnompehoaaOpen2
namespace Go.Proofs.Ytemnhmnompehoaa
open Go Go.RowKit
attribute [local go_sem ↓] Go.wp_at_zero Go.wp_at_succ

theorem Fresh.row {w w' : World} {base : Nat} {x : Gv} {v : Value} {l : List Gv} (h : Fresh w base x) (ho : OwnG w base v l) (hg : w.grownBy w' v.ownBlock) : Fresh w' base x := by
  have ne : ∀ (u : Value) (xs : List Int), Own w base u xs → u.ownBlock ≠ v.ownBlock ∨ v.ownBlock = none := by
    intro u xs hu
    unfold OwnG at ho
    rcases ho.2 with ⟨rfl, _⟩ | ⟨g, cap, cur, rfl, _, hh, _⟩
    · exact .inr rfl
    · left
      intro e
      unfold Own at hu
      rcases hu.2 with ⟨rfl, _⟩ | ⟨g', cap', cur', rfl, _, hh', _⟩
      · simp [Value.ownBlock] at e
      · simp [Value.ownBlock] at e
        subst e
        rw [hh] at hh'
        cases hh'
  have kp : ∀ (u : Value) (xs : List Int), Own w base u xs → Own w' base u xs := by
    intro u xs hu
    rcases ne u xs hu with h1 | h1
    · cases hub : u.ownBlock with
      | none => exact hu.kept hg (.inr hub)
      | some k => exact hu.kept hg (.inl (fun e => h1 (by rw [e])))
    · exact hu.kept hg (by rw [h1]; cases hub : u.ownBlock <;> simp)
  exact ⟨kp _ _ h.m, kp _ _ h.o, kp _ _ h.t, h.mo, h.mt, h.ot⟩

set_option maxRecDepth 100000 in
set_option maxHeartbeats 4000000 in
theorem list_any {w : World} {p : Nat} {A : Option Addr} {c : Nat} {l : List Gv} (h : Gs w p A c l) :
    Calls Try.prog 33 #[.pointer (some ⟨p, 0, none⟩)] w fun e w' => ∃ v l', e = .returned v ∧ OwnG w' w.heap.size v l' ∧ l'.map Gv.x = l.map Gv.x ∧ (∀ x ∈ l', Fresh w' w.heap.size x) ∧ Below w.heap.size w w' := by
  have HG := Kp.mk h
  have hbd := h.row.bd
  obtain ⟨n, hn⟩ : ∃ n, n = l.length := ⟨_, rfl⟩
  have c0 := h.c0
  have DE := Kp.mk (dead_no h)
  have HN := Kp.mk hn
  have HR := Kp.mk h.row
  rw [← hn] at c0 hbd HR
  clear h hn
  go_enter Try.func33, Try.ntmps33
  go_wp2_with (go_at_call 66; refine DE.it.mono ?_; rintro e w1 ⟨rfl, rfl⟩)
  go_loopw [3, 14] (fun v i wr => ∃ (k : Nat) (l' : List Gv), k ≤ n ∧ i = .int .i64 k ∧ OwnG wr w.heap.size v l' ∧ Kp (l'.map Gv.x = (l.take k).map Gv.x) ∧ Kp (∀ x ∈ l', Fresh wr w.heap.size x) ∧ Kp (Below w.heap.size w wr)) (fun _ i _ => n - (intOf i).toNat)
  case atStart => exact ⟨0, [], by omega, rfl, ⟨by simp [flat], .inl ⟨rfl, by simp⟩⟩, ⟨rfl⟩, ⟨by simp⟩, ⟨Below.refl _ _⟩⟩
  case round =>
    obtain ⟨k, l', hk, rfl, ho, HM, HF, HW⟩ := hrel
    by_cases hkn : k < n
    · obtain ⟨x, hx⟩ : ∃ x, l[k]? = some x := ⟨_, List.getElem?_eq_getElem (by rw [← HN.it]; exact hkn)⟩
      have HX := Kp.mk hx
      obtain ⟨a, ha, hla, a0, a1, a2, a3, a4, a5, a6⟩ := (HR.it.below HW.it).get hx
      cases ha
      have HO := Kp.mk ho
      have K1 := Kp.mk ((HG.it.ok x (List.mem_of_getElem? hx)).below HW.it)
      clear hx ho
      go_wp2_with fail
      go_at_call 67
      refine (copied_any x _ (K1.it.below ((Below.refl _ wr).alloc (Nat.le_refl _) _))).mono ?_
      rintro e w1 ⟨E1, d1, E2, d2, E3, d3, rfl, o1, o2, o3, j1, j2, j3, hb1⟩
      have hs0 : w.heap.size ≤ wr.heap.size := HW.it.size
      have hb2 : Below wr.heap.size wr w1 := ((Below.refl wr.heap.size wr).alloc (Nat.le_refl _) _).trans (hb1.mono (by simp))
      have B2 := Kp.mk hb2
      have hs1 : wr.heap.size ≤ w1.heap.size := hb2.size
      obtain ⟨y, hy⟩ : ∃ y : Gv, y = ⟨x.x, E1, d1, E2, d2, E3, d3⟩ := ⟨_, rfl⟩
      have F1 : Kp (Fresh w1 w.heap.size y) := ⟨by rw [hy]; exact ⟨o1.relax (by simp; omega), o2.relax (by simp; omega), o3.relax (by simp; omega), j1, j2, j3⟩⟩
      have YX : Kp (y.x = x.x) := ⟨by rw [hy]⟩
      have RN : Kp (RG (w1.alloc (.cells #[.string x.x.name, .int .i64 x.x.sub, .int .i64 x.x.term, .int .i64 x.x.next, .slice E1 x.x.mem.length d1, .slice E2 x.x.own.length d2, .slice E3 x.x.att.length d3] 51)) (some ⟨w1.heap.size, 0, none⟩) 1 [y]) := ⟨by rw [hy]; exact row1 w1 ⟨x.x, E1, d1, E2, d2, E3, d3⟩⟩
      have O2 : Kp (OwnG (w1.alloc (.cells #[.string x.x.name, .int .i64 x.x.sub, .int .i64 x.x.term, .int .i64 x.x.next, .slice E1 x.x.mem.length d1, .slice E2 x.x.own.length d2, .slice E3 x.x.att.length d3] 51)) w.heap.size u3 l') := ⟨(HO.it.below hb2).alloc _⟩
      have hl' : l'.length + [y].length ≤ 1000 := by
        have := congrArg List.length HM.it
        simp [List.length_take] at this
        have := HN.it
        simp
        omega
      clear o1 o2 o3 j1 j2 j3 hb1 hb2 hy
      go_wp2_with (at_builtin; refine app_g rfl (.tmp 18) (.tmp 21) rfl w.heap.size u3 l' (some ⟨w1.heap.size, 0, none⟩) 1 1 [y] rfl rfl O2.it RN.it (by simp) (by simp; omega) hl' ?_; intro v1 w2 ho2 hg2 _; have P2 := Kp.mk ho2; have Q2 := Kp.mk hg2; clear ho2 hg2)
      go_roundw
      case rel =>
        have hg : w1.grownBy w2 u3.ownBlock := World.grownBy.trans (World.grownBy_alloc w1 _ _) Q2.it
        have hO1 : OwnG w1 w.heap.size u3 l' := HO.it.below B2.it
        refine ⟨k + 1, l' ++ [y], by omega, by go_num, P2.it, ⟨?_⟩, ⟨fun z hz => ?_⟩, ⟨?_⟩⟩
        · rw [List.map_append, HM.it, List.take_succ_eq_append_getElem (by rw [← HN.it]; exact hkn), List.map_append]
          congr 1
          have := HX.it
          rw [List.getElem?_eq_getElem (by rw [← HN.it]; exact hkn)] at this
          cases this
          simp [YX.it]
        · rcases List.mem_append.1 hz with hz | hz
          · exact ((HF.it z hz).below B2.it).row hO1 hg
          · simp at hz
            subst hz
            exact F1.it.row hO1 hg
        · exact below_ownG (HW.it.trans (B2.it.mono hs0)) (by omega) hO1 (Nat.le_refl _) hg
      case measure => simp [intOf]; omega
    · obtain rfl : n = k := by omega
      have HO := Kp.mk ho
      clear ho
      go_wp2
      go_ret
      exact ⟨u3, l', rfl, HO.it, by have := HM.it; rw [List.take_of_length_le (by rw [← HN.it]; omega)] at this; exact this, HF.it, HW.it⟩
def ShortP (n : Nat) (w : World) (e : Ending) (w' : World) : Prop := ∃ b, e = .returned (.bool b) ∧ (b = true → n ≤ 150) ∧ w = w'
theorem ShortP.mk {n : Nat} {w : World} (b : Bool) (h : b = true → n ≤ 150) : ShortP n w (.returned (.bool b)) w := ⟨b, rfl, h, rfl⟩
set_option maxHeartbeats 1000000 in
theorem short_any (A : Option Addr) (n c : Nat) (ks : List Dv) (w : World) (h : RD w A n ks) : Calls Try.prog 21 #[.slice A n c] w (ShortP n w) := by
  have hbd := h.bd
  have H := Kp.mk h
  clear h
  go_enter Try.func21, Try.ntmps21
  go_wp2_with fail
  go_loop [3, 4] (fun v i => ∃ (k : Nat) (x : Int), k ≤ n ∧ k ≤ 151 ∧ i = .int .i64 k ∧ v = .int .i64 x ∧ 0 ≤ x ∧ x ≤ 8192) (fun _ i => n - (intOf i).toNat)
  case atStart => exact ⟨0, 0, by omega, by omega, rfl, rfl, by omega, by omega⟩
  case round =>
    obtain ⟨k, x, hk, hk1, rfl, rfl, hx0, hx1⟩ := hrel
    by_cases hc : k < n ∧ k ≤ 150 ∧ x ≤ 4096
    · obtain ⟨hkn, hk2, hx2⟩ := hc
      obtain ⟨d, hd⟩ : ∃ d, ks[k]? = some d := ⟨_, List.getElem?_eq_getElem (by rw [H.it.len]; exact hkn)⟩
      obtain ⟨b, o, hA, _, _, c1, _⟩ := H.it.get hd
      cases hA
      have hk2' : (k : Int) ≤ 150 := by omega
      have hd1 : decide ((k : Int) < (n : Int)) = true := by simp; omega
      clear hd
      go_wp2
      go_round
      case rel => exact ⟨k + 1, _, by omega, by omega, by go_num, rfl, by omega, by omega⟩
      case measure => simp [intOf]; omega
    · by_cases h1 : k < n
      · have hd1 : decide ((k : Int) < (n : Int)) = true := by simp; omega
        by_cases h2 : k ≤ 150
        · have h2' : (k : Int) ≤ 150 := by omega
          have h3 : 4096 < x := by omega
          have h3' : decide (x ≤ 4096) = false := by simp; omega
          by_cases h4 : n ≤ 150
          · have h4' : (n : Int) ≤ 150 := by omega
            clear hc
            go_wp2
            go_ret
            exact ShortP.mk false fun _ => h4
          · have h4' : 150 < (n : Int) := by omega
            clear hc
            go_wp2
            go_ret
            exact ShortP.mk false fun h => by cases h
        · have h2' : 150 < (k : Int) := by omega
          have h4' : 150 < (n : Int) := by omega
          clear hc
          go_wp2
          go_ret
          exact ShortP.mk false fun h => by cases h
      · obtain rfl : n = k := by omega
        have hd1 : decide ((n : Int) < (n : Int)) = false := by simp
        clear hc
        by_cases h4 : n ≤ 150
        · have h4' : (n : Int) ≤ 150 := by omega
          by_cases h5 : x ≤ 4096
          · go_wp2
            go_ret
            exact ShortP.mk true fun _ => h4
          · have h5' : 4096 < x := by omega
            go_wp2
            go_ret
            exact ShortP.mk false fun _ => h4
        · have h4' : 150 < (n : Int) := by omega
          go_wp2
          go_ret
          exact ShortP.mk false fun h => by cases h
def runS (ks : List Dv) (l : List Gp) : List Gp := ks.foldl (fun l k => (stepS k l).2.2) l
theorem runS_next {ks : List Dv} {k : Nat} {d : Dv} (h : ks[k]? = some d) (l : List Gp) : runS (ks.take (k + 1)) l = (stepS d (runS (ks.take k) l)).2.2 := by
  have hk := (List.getElem?_eq_some_iff.1 h).1
  have e : ks[k] = d := by have := List.getElem?_eq_getElem hk; rw [h] at this; cases this; rfl
  unfold runS
  rw [List.take_succ_eq_append_getElem hk, List.foldl_append, e]
  rfl
theorem runS_good (ks : List Dv) {l : List Gp} (h : Goods l) : Goods (runS ks l) := by
  unfold runS
  induction ks generalizing l with
  | nil => exact h
  | cons k ks ih => exact ih (stepS_good h)
set_option maxRecDepth 100000 in
set_option maxHeartbeats 4000000 in
theorem made_any (A : Option Addr) (n c : Nat) (ks : List Dv) (w : World) (h : RD w A n ks) : Calls Try.prog 35 #[.slice A n c] w fun e w' => e = .returned (.pointer (some ⟨w.heap.size, 0, none⟩)) ∧ (∃ A' c' l, Gs w' w.heap.size A' c' l ∧ l.map Gv.x = runS ks []) ∧ Below w.heap.size w w' := by
  have hbd := h.bd
  have H := Kp.mk h
  clear h
  have HS0 : Kp (Gs (w.alloc (.cells #[.slice none 0 0, .bool true] 68)) w.heap.size none 0 []) := ⟨gs_new w⟩
  have HB0 : Kp (Below w.heap.size w (w.alloc (.cells #[.slice none 0 0, .bool true] 68))) := ⟨(Below.refl _ w).alloc (Nat.le_refl _) _⟩
  go_enter Try.func35, Try.ntmps35
  go_wp2_with (go_at_call 22; refine (new_any w).mono ?_; rintro e w1 ⟨rfl, rfl⟩)
  go_loopw [9] (fun i wr => ∃ (k : Nat) (A' : Option Addr) (c' : Nat) (l : List Gv), k ≤ n ∧ i = .int .i64 k ∧ Kp (Gs wr w.heap.size A' c' l) ∧ Kp (l.map Gv.x = runS (ks.take k) []) ∧ Kp (Below w.heap.size w wr)) (fun i _ => n - (intOf i).toNat)
  case atStart => exact ⟨0, none, 0, [], by omega, rfl, HS0, ⟨rfl⟩, HB0⟩
  case round =>
    clear HS0 HB0
    obtain ⟨k, A', c', l, hk, rfl, HG, HM, HW⟩ := hrel
    by_cases hkn : k < n
    · obtain ⟨d, hd⟩ : ∃ d, ks[k]? = some d := ⟨_, List.getElem?_eq_getElem (by rw [H.it.len]; exact hkn)⟩
      obtain ⟨b, o, hA, hlb, c0, c1, c2, c3, c4, c5, c6, c7⟩ := (H.it.below HW.it).get hd
      cases hA
      have HD := Kp.mk hd
      have HGD : Kp (Goods (l.map Gv.x)) := ⟨by rw [HM.it]; exact runS_good _ (fun x hx => by cases hx)⟩
      have hsz : w.heap.size ≤ wr.heap.size := HW.it.size
      clear hd
      go_wp2_with (go_at_call 23; refine (does_any (HG.it.below ((Below.refl _ wr).alloc (Nat.le_refl _) _)) HGD.it d).mono ?_; rintro e w1 ⟨rfl, A1, c9, l1, hg1, hm1, hw1⟩; have G1 := Kp.mk hg1; have M1 := Kp.mk hm1; have W1 := Kp.mk hw1; clear hg1 hm1 hw1)
      go_roundw
      case rel =>
        refine ⟨k + 1, A1, c9, l1, by omega, by go_num, G1, ⟨by rw [M1.it, HM.it, runS_next HD.it]⟩, ⟨?_⟩⟩
        exact (HW.it.alloc hsz _).grown W1.it (by simp; omega) (fun q hq => by cases hq; exact Nat.le_refl _)
      case measure => simp [intOf]; omega
    · obtain rfl : n = k := by omega
      go_wp2
      go_ret
      exact ⟨rfl, ⟨A', c', l, HG.it, by have := HM.it; rw [List.take_of_length_le (by rw [H.it.len]; omega)] at this; exact this⟩, HW.it⟩
end Go.Proofs.Ytemnhmnompehoaa
