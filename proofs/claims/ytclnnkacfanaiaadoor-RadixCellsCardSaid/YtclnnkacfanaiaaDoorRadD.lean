/- A radix tree's nodes: put, whatever stands there. -/
import Derived.Test.YtclnnkacfanaiaaDoorRadC
namespace Go.Proofs.YtclnnkacfanaiaaDoor
open Go.RowKit
set_option linter.unusedVariables false
set_option linter.unusedSimpArgs false
namespace RadD
open MaskA MaskP KidA KidB RadK RadM RadA RadB RadC
theorem put_any (T : RT) (x : Int) (kw : Value) (k : List Int) : ∀ (w : World) (K F : Nat → Prop) (v : Value) (q : List Int), Pre w K F v kw T q k → Calls Tryd.prog 48 #[v, .agg #[kw, .int .u64 x]] w (PutRet w K F T k x) := by
  induction T with
  | nil => intro w K F v q h; exact put_nil w K F v kw q k x h
  | leaf k0 y =>
    intro w K F v q h
    by_cases e : k0 = k
    · subst e; exact put_same w K F v kw q k0 x y h
    · have hj : RT.manyT (.leaf k0 y) k = RT.moreJ (comK (RT.leaf k0 y).key k) (.leaf k0 y) k ∧ RT.putT (.leaf k0 y) k x = RT.join (comK (RT.leaf k0 y).key k) (.leaf k0 y) k x := by
        rw [RT.manyT, RT.putT, if_neg e, if_neg e]; exact ⟨rfl, rfl⟩
      have hcl := comK_le (RT.leaf k0 y).key k
      by_cases h1 : k.length = comK (RT.leaf k0 y).key k
      · exact joinA_leaf w K F v kw _ q k x h rfl e ⟨k0, y, rfl⟩ hj h1
      · by_cases h2 : (RT.leaf k0 y).key.length = comK (RT.leaf k0 y).key k
        · exact joinB w K F v kw _ q k k0 x y h rfl e rfl hj h2 (by omega)
        · exact joinC_leaf w K F v kw _ q k x h rfl e ⟨k0, y, rfl⟩ hj (by omega) (by omega)
  | node k0 o kd f ih =>
    intro w K F v q h
    by_cases hc : comK k0 k < k0.length
    · have e : k0 ≠ k := fun e => by subst e; have := comK_of_pre (List.prefix_refl k0); omega
      have hj : RT.manyT (.node k0 o kd f) k = RT.moreJ (comK (RT.node k0 o kd f).key k) (.node k0 o kd f) k ∧ RT.putT (.node k0 o kd f) k x = RT.join (comK (RT.node k0 o kd f).key k) (.node k0 o kd f) k x := by
        rw [RT.manyT, RT.putT, if_pos hc, if_pos hc]; exact ⟨rfl, rfl⟩
      have hcl := comK_le (RT.node k0 o kd f).key k
      by_cases h1 : k.length = comK (RT.node k0 o kd f).key k
      · exact joinA_node w K F v kw _ q k x h rfl e ⟨k0, o, kd, f, rfl⟩ hj h1
      · exact joinC_node w K F v kw _ q k x h rfl e ⟨k0, o, kd, f, rfl⟩ hj hc (by omega)
    · have hp := RT.com_full hc
      by_cases hl : k.length = k0.length
      · exact put_own w K F v kw q k0 k o kd f x h hp hl
      · have hkl : k0.length < k.length := by have := hp.length_le; omega
        cases hf : (f (byteAt k k0.length)).is with
        | false => exact put_new w K F v kw q k0 k o kd f x h hp hkl hf
        | true => exact put_rec w K F v kw q k0 k o kd f x h hp hkl hf (fun W F' v' hp => ih _ W K F' v' _ hp)
end RadD
end Go.Proofs.YtclnnkacfanaiaaDoor
