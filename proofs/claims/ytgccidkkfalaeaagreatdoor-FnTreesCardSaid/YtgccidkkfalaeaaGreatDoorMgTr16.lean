/- What a slice of bytes that came in reads as. -/
import Derived.ChangeKeysEq
import Derived.Test.YtgccidkkfalaeaaGreatDoorMgTr13
namespace Go.Proofs.YtgccidkkfalaeaaGreatDoor
open Go.ChangeShapes Go.WideShapes Go.ChangeAt Go.RowKit

theorem eqA2_same (a b : Int) (w : World) : Sem.run Tryz.prog (Op.equalIn 10000 41 (.agg #[.int .i64 a, .int .i64 b]) (.agg #[.int .i64 a, .int .i64 b])) w = Result.ok true w := by
  obtain ⟨i0, hi, hz0, hz1, hz2⟩ := info_parts info_int
  rw [run_equalIn_array w 9999 _ _ Tryz.underlying41 hi]
  have e : List.range 2 = [0, 1] := rfl
  rw [e]
  simp [Op.eqItems, cells_int, go_sem]
theorem cells_u8 : Tryz.prog.cellsOf 5 = 1 := by kernel_rfl
theorem add_spot {W : World} {ad : Addr} {v : Value} (h : W.cell? (ad.add 0) = some v) : ad.spot = none := by
  obtain ⟨b, o, s⟩ := ad
  rcases s with _ | s
  · rfl
  · simp [Addr.add, World.cell?] at h
    split at h <;> simp at h
set_option maxRecDepth 100000 in
theorem open_Byt {H : Type} {enc : TypeId × Value → H} {W : World} {held : Bool} {base : Nat} {v : Value} {d : DataW H} {p : List MemPlace} (_hv : Value.okWide Tryz.prog W .any base 22 v) (h : DataW.Trod enc Tryz.prog W 0 (fun _ => true) held 22 v d p) :
    ∃ A n c, v = .slice A n c ∧ (n ≤ c ∧ c ≤ maxLen ∧ Byt W A n) := by
  obtain ⟨fuel, hf⟩ := h
  obtain ⟨A, n, c, rfl⟩ := okWide_slice Tryz.underlying22 _hv
  have hf2 : DataW.trod enc Tryz.prog W 0 (fun _ => true) held fuel 22 [.slice A n c] = some (d, p) := by simpa [Value.cells] using hf
  rcases open_ints Tryz.underlying22 Tryz.underlying5 cells_u8 hf2 with ⟨hcs, hx⟩ | ⟨a, len, cap, zs, hcs, _, hl, hm, hz, hx, hcell, hwz⟩
  · simp at hcs
    obtain ⟨rfl, rfl, rfl⟩ := hcs
    exact ⟨none, 0, 0, rfl, by omega, by simp [maxLen], fun j hj => by omega⟩
  · simp at hcs
    obtain ⟨rfl, rfl, rfl⟩ := hcs
    rw [if_pos rfl] at hz
    refine ⟨some a, n, c, rfl, hl, hm, fun j hj => ?_⟩
    have h0 := hcell 0 (by omega)
    have hs := add_spot h0
    have hc := hcell j (by omega)
    obtain ⟨b, o, s⟩ := a
    simp at hs
    subst hs
    have hz2 : j < zs.length := by omega
    have hw := hwz (zs[j]) (List.getElem_mem hz2)
    have e : (⟨b, o, none⟩ : Addr).add j = ⟨b, o + j, none⟩ := by unfold Addr.add; split <;> simp_all
    rw [e] at hc
    refine ⟨b, o, zs[j], rfl, ?_, ?_⟩
    · rw [hc]; simp [hz2]
    · simpa [Lit.wf, IntKind.min, IntKind.max, IntKind.signed, IntKind.bits] using hw
end Go.Proofs.YtgccidkkfalaeaaGreatDoor
