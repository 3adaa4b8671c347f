import Derived.Test.YtkiabjhbblmneaaEditPure
open Go Go.RowKit Go.Kb
namespace Go.Ed

theorem put_get (a b : ByteArray) (j : Nat) (hj : j < (betw a b).put.size) : (betw a b).put.data.toList[j]? = b.data.toList[betN a b + j]? := by
  have hs := bet_put_size a b
  rw [bet_put, List.getElem?_drop, List.getElem?_take_of_lt (by omega)]

theorem bet_first (a b : ByteArray) (h1 : 0 < (betw a b).put.size) (h2 : 0 < (betw b a).put.size) (x y : UInt8) (hx : (betw a b).put.data.toList[0]? = some x) (hy : (betw b a).put.data.toList[0]? = some y) : x ≠ y := by
  have s1 := bet_put_size a b
  have s2 := bet_put_size b a
  rw [betK_comm b a, betN_comm b a] at s2
  rw [put_get a b 0 h1] at hx
  rw [put_get b a 0 h2, betN_comm b a] at hy
  intro e
  subst e
  have hd := cpre_differ a.data.toList b.data.toList (by show betN a b < _; rw [bl_len]; omega) (by show betN a b < _; rw [bl_len]; omega)
  exact hd ((show a.data.toList[betN a b]? = some x from hy).trans (show b.data.toList[betN a b]? = some x from hx).symm)

theorem bet_last (a b : ByteArray) (h1 : 0 < (betw a b).put.size) (h2 : 0 < (betw b a).put.size) (x y : UInt8) (hx : (betw a b).put.data.toList[(betw a b).put.size - 1]? = some x) (hy : (betw b a).put.data.toList[(betw b a).put.size - 1]? = some y) : x ≠ y := by
  have s1 := bet_put_size a b
  have s2 := bet_put_size b a
  rw [betK_comm b a, betN_comm b a] at s2
  rw [put_get a b _ (by omega)] at hx
  rw [put_get b a _ (by omega), betN_comm b a] at hy
  intro e
  subst e
  have hk : betK a b = cpre a.data.toList.reverse b.data.toList.reverse := by unfold betK at s1 s2 ⊢; omega
  have hl := betK_le a b
  have hd := cpre_differ a.data.toList.reverse b.data.toList.reverse (by rw [← hk, List.length_reverse, bl_len]; omega) (by rw [← hk, List.length_reverse, bl_len]; omega)
  rw [← hk, List.getElem?_reverse (by rw [bl_len]; omega), List.getElem?_reverse (by rw [bl_len]; omega), bl_len, bl_len] at hd
  rw [show betN a b + ((betw a b).put.size - 1) = b.size - 1 - betK a b by omega] at hx
  rw [show betN a b + ((betw b a).put.size - 1) = a.size - 1 - betK a b by omega] at hy
  exact hd (hy.trans hx.symm)

theorem turn_app (a b : ByteArray) (ha : a.size ≤ 8000) (hb : b.size ≤ 8000) : appE a.data.toList [betw a b, betw b a] = (a.data.toList, 0) := by
  rw [bet_apply a b _ hb, bet_apply b a _ ha]
  rfl

end Go.Ed
