/-
  Front and Back undo one another, plainly.
-/
import Derived.Test.YtnkgagbobihnnaaFro
namespace Go.Proofs.Ytnkgagbobihnnaa
open Go Go.RowKit

theorem allB_nodup : allB.Nodup := by
  unfold allB
  rw [List.nodup_iff_pairwise_ne, List.pairwise_map]
  refine List.Pairwise.imp_of_mem ?_ (List.nodup_iff_pairwise_ne.1 List.nodup_range)
  intro a b ha hb hne h
  apply hne
  have h1 := congrArg UInt8.toNat h
  have ha := List.mem_range.1 ha
  have hb := List.mem_range.1 hb
  rw [UInt8.toNat_ofNat', UInt8.toNat_ofNat'] at h1
  omega
theorem stF_nodup (bs : List UInt8) (k : Nat) : (stF bs k).Nodup := (stF_perm bs k).nodup_iff.2 allB_nodup
theorem stB_nodup (bs : List UInt8) (k : Nat) : (stB bs k).Nodup := (stB_perm bs k).nodup_iff.2 allB_nodup
theorem idxOf_getD {l : List UInt8} (hn : l.Nodup) {p : Nat} (hp : p < l.length) : l.idxOf (l.getD p 0) = p := by
  rw [List.getD_eq_getElem?_getD, List.getElem?_eq_getElem hp]
  exact hn.idxOf_getElem p hp
theorem frontP_getD {bs : List UInt8} {k : Nat} (h : k < bs.length) : (frontP bs).getD k 0 = UInt8.ofNat ((stF bs k).idxOf (bs.getD k 0)) := by
  rw [List.getD_eq_getElem?_getD, List.getElem?_eq_getElem (by rw [frontP_len]; exact h)]
  simp [frontP]
theorem backP_getD {bs : List UInt8} {k : Nat} (h : k < bs.length) : (backP bs).getD k 0 = (stB bs k).getD (bs.getD k 0).toNat 0 := by
  rw [List.getD_eq_getElem?_getD, List.getElem?_eq_getElem (by rw [backP_len]; exact h)]
  simp [backP]
theorem stB_front (bs : List UInt8) : ∀ k, k ≤ bs.length → stB (frontP bs) k = stF bs k
  | 0, _ => rfl
  | k + 1, h => by
    have ih := stB_front bs k (by omega)
    show moveF (stB (frontP bs) k) ((frontP bs).getD k 0).toNat = moveF (stF bs k) ((stF bs k).idxOf (bs.getD k 0))
    rw [ih, frontP_getD (by omega), UInt8.toNat_ofNat', Nat.mod_eq_of_lt (stF_lt bs k _)]
theorem stF_back (bs : List UInt8) : ∀ k, k ≤ bs.length → stF (backP bs) k = stB bs k
  | 0, _ => rfl
  | k + 1, h => by
    have ih := stF_back bs k (by omega)
    show moveF (stF (backP bs) k) ((stF (backP bs) k).idxOf ((backP bs).getD k 0)) = moveF (stB bs k) (bs.getD k 0).toNat
    rw [ih, backP_getD (by omega), idxOf_getD (stB_nodup bs k) (by rw [stB_len]; exact UInt8.toNat_lt _)]
theorem getD_ext {l m : List UInt8} (hl : l.length = m.length) (h : ∀ k, k < m.length → l.getD k 0 = m.getD k 0) : l = m := by
  apply List.ext_getElem hl
  intro i h1 h2
  have := h i h2
  rwa [List.getD_eq_getElem?_getD, List.getD_eq_getElem?_getD, List.getElem?_eq_getElem h1, List.getElem?_eq_getElem h2] at this
/-- P6.7: back and front again. -/
theorem back_front (bs : List UInt8) : backP (frontP bs) = bs := by
  refine getD_ext (by rw [backP_len, frontP_len]) fun k hk => ?_
  rw [backP_getD (by rw [frontP_len]; exact hk), stB_front bs k (by omega), frontP_getD hk, UInt8.toNat_ofNat', Nat.mod_eq_of_lt (stF_lt bs k _)]
  exact getD_idxOf (stF_mem bs k _)
theorem front_back (bs : List UInt8) : frontP (backP bs) = bs := by
  refine getD_ext (by rw [frontP_len, backP_len]) fun k hk => ?_
  rw [frontP_getD (by rw [backP_len]; exact hk), stF_back bs k (by omega), backP_getD hk, idxOf_getD (stB_nodup bs k) (by rw [stB_len]; exact UInt8.toNat_lt _)]
  simp
end Go.Proofs.Ytnkgagbobihnnaa
