import Derived.Shelf.Strings.Search2
import Derived.Shelf.Strings.Shaped
import Derived.Test.YtbbfhlglljjpmaaGreatDoorEvZE
import Derived.Test.YtbbfhlglljjpmaaGreatDoorProg
open Go Go.Ev
namespace Go.Proofs.YtbbfhlglljjpmaaGreatDoor
set_option maxRecDepth 1000000
set_option linter.unusedVariables false
def ixl_lays219_ren : Go.Shelf.Ren := ⟨fun | 219 => 130 | 217 => 112 | 225 => 156 | 224 => 157 | 267 => 158 | 266 => 145 | 314 => 174 | n => n, fun | 9 => 9 | 3 => 3 | 4 => 4 | 5 => 5 | 46 => 179 | 146 => 215 | 51 => 186 | n => n, fun | 1 => 0 | n => n⟩
theorem ixl_lays219 : Go.Proofs.Lays.n219 Tryz.prog ixl_lays219_ren := {
  mixed := by kernel_rfl
  f217 := Tryz.func112.trans (congrArg some (by kernel_rfl))
  f219 := Tryz.func130.trans (congrArg some (by kernel_rfl))
  f224 := Tryz.func157.trans (congrArg some (by kernel_rfl))
  f225 := Tryz.func156.trans (congrArg some (by kernel_rfl))
  f266 := Tryz.func145.trans (congrArg some (by kernel_rfl))
  f267 := Tryz.func158.trans (congrArg some (by kernel_rfl))
  f314 := Tryz.func174.trans (congrArg some (by kernel_rfl))
  t3 := Tryz.underlying3
  a3 := Tryz.isAgg3
  z3 := Tryz.sizeOf3
  v3 := Tryz.zeroValue3
  t4 := Tryz.underlying4
  a4 := Tryz.isAgg4
  z4 := Tryz.sizeOf4
  v4 := Tryz.zeroValue4
  t5 := Tryz.underlying5
  a5 := Tryz.isAgg5
  z5 := Tryz.sizeOf5
  v5 := Tryz.zeroValue5
  t9 := Tryz.underlying9
  a9 := Tryz.isAgg9
  z9 := Tryz.sizeOf9
  v9 := Tryz.zeroValue9
  t46 := Tryz.underlying179
  a46 := Tryz.isAgg179
  z46 := Tryz.sizeOf179
  v46 := Tryz.zeroValue179
  t51 := Tryz.underlying186
  a51 := Tryz.isAgg186
  z51 := Tryz.sizeOf186
  v51 := Tryz.zeroValue186
  t146 := Tryz.underlying215
  a146 := Tryz.isAgg215
  z146 := Tryz.sizeOf215
  v146 := Tryz.zeroValue215
  g1 := by kernel_rfl }
theorem ev_ix : IdxOK Tryz.prog 130 0 := fun s sub m w hs hm => (Any.stringslite_Index ixl_lays219 s sub m w hs hm).mono fun e w' h => h
theorem ev_exi : EntOK Tryz.prog 130 := entOK_of Tryz.func130 (by kernel_rfl) (by kernel_rfl)
theorem ev_gm {w : World} (h : w.ShapedOpen Tryz.prog) : ∃ m, MaxAt 0 3 m w :=
  maxAt_of (t := 3) (zero := #[.int .i64 0]) h (of_decide_eq_true (by kernel_rfl)) (by kernel_rfl) (by kernel_rfl) (by kernel_rfl) Tryz.underlying3
end Go.Proofs.YtbbfhlglljjpmaaGreatDoor
