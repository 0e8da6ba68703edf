/- Regions that draw their order and turn nothing: parts of elements. -/
import Derived.Test.YtjlnfficehomhaaDoorBase26
set_option linter.unusedVariables false
namespace Go.H
open Go

section
variable {P : Program} {φ : Fr} {h : Heap} {o : Oper} {α : Type} {K : Kd α} {e : Nat} {v : Value} {l : List α}

theorem opx_loadPart {t : TypeId} {x : Operand} {u r : Value} {i off : Nat} {y : α} (ho : o.op = .load t x) (ht : oneCellT P t = true) (hx : φ.ev x = some u) (hp : PtF K.size off u v i) (H : SL K e h v l) (hy : l[i]? = some y) (hr : ∀ us, K.rel y us → us[off]? = some r) : OpX P φ o h r := by
  obtain ⟨q, c, xs, rfl, hrr, hc⟩ := H
  obtain ⟨p, n, c', hv, rfl⟩ := hp
  simp only [Value.slice.injEq] at hv
  obtain ⟨rfl, rfl, rfl⟩ := hv
  rcases hc with rfl | ⟨p', hp, hsp, hb, hcell⟩
  · simp at hy
  cases hp
  obtain ⟨us, hrel, hus⟩ := hrr.2.get hy
  have hce := hcell _ _ (hus off r (hr us hrel))
  intro a w hev hw'
  have := run_loadVar_one (P := P) ht (w := w) (a := p.add (i * K.size + off)) (v := r) (by rw [cell_hw hw']; exact hce)
  simp [execOp, ho, hev x _ hx, Instr.loadAt, Instr.sureAddr, this]

theorem opx_fieldE {s : TypeId} {x : Operand} {f n : Nat} {u : Value} {i : Nat} (ho : o.op = .fieldAddr s x f) (hf : fieldOff P s f = some n) (hx : φ.ev x = some u) (hp : PtI K.size u v i) (H : SL K e h v l) (hl : i < l.length) : ∃ u', PtF K.size n u' v i ∧ OpX P φ o h u' := by
  obtain ⟨p, m, c, hv, rfl⟩ := hp
  obtain ⟨hsp, _⟩ := H.spot hv (by intro h0; subst h0; simp at hl)
  refine ⟨.pointer (some (p.add (i * K.size + n))), ⟨p, m, c, hv, rfl⟩, ?_⟩
  intro a w hev hw'
  unfold fieldOff at hf
  split at hf
  · rename_i fs hu
    split at hf
    · rename_i fd hfd
      split at hf
      · rename_i ti hi
        split at hf
        · cases hf
        · rename_i hz
          cases hf
          rw [← add_add _ _ _ hsp]
          simp [execOp, ho, hev x _ hx, Instr.fieldAt, Instr.sureAddr, run_underlying hu, hfd, fieldPlace, sizeOf, typeInfo, hi, hz]
      · cases hf
    · cases hf
  · cases hf

/-- a pointer to an element is not nil -/
theorem opv_nilCheckP {x : Operand} {u : Value} {sz i : Nat} (ho : o.op = .nilCheck x) (hx : φ.ev x = some u) (hp : PtI sz u v i) : OpV P φ o h (Det u h) := by
  obtain ⟨p, n, c, _, rfl⟩ := hp
  exact opv_nilCheck ho hx
theorem opx_nilCheckP {x : Operand} {u : Value} {sz i : Nat} (ho : o.op = .nilCheck x) (hx : φ.ev x = some u) (hp : PtI sz u v i) : OpX P φ o h u := by
  obtain ⟨p, n, c, _, rfl⟩ := hp
  exact opx_nilCheck ho hx
end
end Go.H
