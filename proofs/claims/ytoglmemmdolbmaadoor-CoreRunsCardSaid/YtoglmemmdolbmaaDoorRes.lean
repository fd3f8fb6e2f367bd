/-
  Three results that lie in cells. No condition.
-/
import Derived.Test.YtoglmemmdolbmaaDoorIter
namespace Go.Proofs.YtoglmemmdolbmaaDoor
open Go.RowKit
set_option linter.unusedVariables false
set_option linter.unusedSimpArgs false

theorem run_loadOne {P : Program} {w : World} {t : TypeId} {d : TypeDesc} {b : Nat} {u : TypeId} {v : Value} (hu : P.underlying t = some d) (hd : (match d with | .struct _ | .array _ _ => true | _ => false) = false) (h : Blk w b u #[v]) :
    (loadVar t ⟨b, 0, none⟩).run P w = .ok v w := by
  have hc := h.cell 0
  simp only [List.getElem?_toArray, List.getElem?_cons_zero] at hc
  unfold loadVar
  rw [Sem.run_bind]
  cases d <;> simp_all [isAgg, run_underlying hu, Result.andThen]
theorem results_cell3 {P : Program} {fn : Func} {p q r : Tmp} {t1 t2 t3 : TypeId} (h : fn.results = #[.cell p t1, .cell q t2, .cell r t3]) (tmps : Array Value) {w : World} {b1 b2 b3 : Nat} {u1 u2 u3 : TypeId} {v1 v2 v3 : Value} {d1 d2 d3 : TypeDesc}
    (hp1 : tmps.getD p undef = .pointer (some ⟨b1, 0, none⟩)) (h1 : Blk w b1 u1 #[v1]) (hu1 : P.underlying t1 = some d1) (hd1 : (match d1 with | .struct _ | .array _ _ => true | _ => false) = false)
    (hp2 : tmps.getD q undef = .pointer (some ⟨b2, 0, none⟩)) (h2 : Blk w b2 u2 #[v2]) (hu2 : P.underlying t2 = some d2) (hd2 : (match d2 with | .struct _ | .array _ _ => true | _ => false) = false)
    (hp3 : tmps.getD r undef = .pointer (some ⟨b3, 0, none⟩)) (h3 : Blk w b3 u3 #[v3]) (hu3 : P.underlying t3 = some d3) (hd3 : (match d3 with | .struct _ | .array _ _ => true | _ => false) = false) :
    (results fn tmps).run P w = .ok (.tuple #[v1, v2, v3]) w := by
  have e1 := run_loadOne hu1 hd1 h1
  have e2 := run_loadOne hu2 hd2 h2
  have e3 := run_loadOne hu3 hd3 h3
  have p1 : tmps[p]?.getD undef = .pointer (some ⟨b1, 0, none⟩) := by simpa using hp1
  have p2 : tmps[q]?.getD undef = .pointer (some ⟨b2, 0, none⟩) := by simpa using hp2
  have p3 : tmps[r]?.getD undef = .pointer (some ⟨b3, 0, none⟩) := by simpa using hp3
  simp only [results, h]
  simp [Sem.run_bind, Result.andThen, p1, p2, p3, asAddr, e1, e2, e3]
end Go.Proofs.YtoglmemmdolbmaaDoor
