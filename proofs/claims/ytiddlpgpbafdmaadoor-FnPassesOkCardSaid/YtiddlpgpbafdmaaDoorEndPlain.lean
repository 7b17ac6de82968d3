/- Plain law: when the last slab leaves. -/
import Derived.Test.YtiddlpgpbafdmaaDoorPass
namespace Go.Proofs.YtiddlpgpbafdmaaDoor
set_option linter.unusedVariables false

theorem timesOf_len (xs : List (Int × Int)) (r p : Int) : (timesOf xs r p).length ≤ 1000 := by
  unfold timesOf
  split
  · rename_i h
    rw [passTimes_length]
    have := chargesOk_len (Bool.and_eq_true_iff.1 h).1
    omega
  · simp
/-- when the last one leaves; 0 if there is none -/
def lastOut (ts : List (Int × Int)) : Int := match ts.getLast? with | some l => l.2 | none => 0
def passEnd (xs : List (Int × Int)) (r p : Int) : Int := if chargesOk xs && furnOk r p then lastOut (passTimes r.toNat p xs) else -1
theorem passEnd_no {xs : List (Int × Int)} {r p : Int} (h : (chargesOk xs && furnOk r p) = false) : passEnd xs r p = -1 := by simp only [passEnd, h]; rfl
theorem passEnd_ok {xs : List (Int × Int)} {R : Nat} {p : Int} (h : (chargesOk xs && furnOk R p) = true) : passEnd xs R p = lastOut (passTimes R p xs) := by simp only [passEnd, h]; rfl
theorem lastOut_nil : lastOut [] = 0 := rfl
theorem lastOut_at {ts : List (Int × Int)} {m : Nat} {a b : Int} (hl : ts.length = m + 1) (h : ts[m]? = some (a, b)) : lastOut ts = b := by
  unfold lastOut
  rw [List.getLast?_eq_getElem?, hl]
  simp [h]
end Go.Proofs.YtiddlpgpbafdmaaDoor
