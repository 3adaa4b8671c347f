import Derived.Test.YtkiabjhbblmneaaOpen
import Derived.Test.YtkiabjhbblmneaaEditSpec
import Derived.Test.YtkiabjhbblmneaaProg
open Go Go.ChangeShapes Go.WideShapes Go.RowKit Go.Kb Go.Ed
namespace Go.Proofs.Ytkiabjhbblmneaa

theorem ed_cells {H : Type} {enc : TypeId × Value → H} {w : World} (n : Nat) (cs : List Value) (y : DataW H × List MemPlace) (h : DataW.trod enc Try.prog w 0 (fun _ => true) true n 36 cs = some y) : ∃ x : Ed, cs = encE x := by
  obtain ⟨xs, m, _, _, hl, _, _⟩ := DataW.trod_struct Try.underlying36 h
  have hl3 : cs.length = 3 := hl.trans (by kernel_rfl)
  have f := fun j f hj => field_cell Try.underlying36 h j f hj
  match cs, hl3 with
  | [c0, c1, c2], _ =>
    obtain ⟨m0, z0, g0⟩ := f 0 _ rfl
    obtain ⟨m1, z1, g1⟩ := f 1 _ rfl
    obtain ⟨m2, z2, g2⟩ := f 2 _ rfl
    have e0 : Try.prog.cellsOf 3 = 1 := by kernel_rfl
    have e2 : Try.prog.cellsOf 9 = 1 := by kernel_rfl
    replace g0 : DataW.trod enc Try.prog w 0 (fun _ => true) true m0 3 (([c0, c1, c2].drop 0).take (Try.prog.cellsOf 3)) = some z0 := g0
    replace g1 : DataW.trod enc Try.prog w 0 (fun _ => true) true m1 3 (([c0, c1, c2].drop 1).take (Try.prog.cellsOf 3)) = some z1 := g1
    replace g2 : DataW.trod enc Try.prog w 0 (fun _ => true) true m2 9 (([c0, c1, c2].drop 2).take (Try.prog.cellsOf 9)) = some z2 := g2
    rw [e0] at g0 g1
    rw [e2] at g2
    obtain ⟨a, h0, _⟩ := DataW.trod_int Try.underlying3 g0
    obtain ⟨b, h1, _⟩ := DataW.trod_int Try.underlying3 g1
    obtain ⟨s, h2, _⟩ := DataW.trod_string Try.underlying9 g2
    simp at h0 h1 h2
    exact ⟨⟨a, b, s⟩, by rw [h0, h1, h2]; rfl⟩

theorem open_eds {H : Type} {enc : TypeId × Value → H} {w : World} {a : Option Addr} {len cap : Nat} {d : DataW H} {p : List MemPlace} (h : DataW.Trod enc Try.prog w 0 (fun _ => true) true 22 (.slice a len cap) d p) :
    ∃ l : List Ed, RV w 3 a len cap (cellsE l) ∧ cap ≤ maxLen := by
  obtain ⟨rows, hlen, hrows, hlc, hcm, hnil, hcell⟩ := open_rows Try.underlying22 3 (by kernel_rfl) (fun cs => ∃ x : Ed, cs = encE x) ed_cells h
  have hl : ∃ l : List Ed, rows = l.map encE := by
    clear hlen hcell
    induction rows with
    | nil => exact ⟨[], rfl⟩
    | cons r rows ih =>
      obtain ⟨l, hl⟩ := ih (fun r hr => hrows r (by simp [hr]))
      obtain ⟨⟨x, hx⟩, _⟩ := hrows r (by simp)
      exact ⟨x :: l, by rw [hx, hl]; rfl⟩
  obtain ⟨l, rfl⟩ := hl
  have e : (l.map encE).flatten = cellsE l := by simp [cellsE, List.flatMap]
  rw [e] at hcell
  exact ⟨l, ⟨by rw [cellsE_length, ← hlen, List.length_map], hlc, hnil, hcell, cellsE_one l⟩, hcm⟩

end Go.Proofs.Ytkiabjhbblmneaa
