/- Every operation that is told does what the abstract view says. -/
import Derived.Test.YtfbjnipamfbgmaaAbSoundF
set_option linter.unusedSimpArgs false
set_option linter.unusedVariables false
namespace Go.Ab
section
variable {P : Program} {base : Nat} {G A : Nat → Prop} {w0 : Base} {N : Nat} {st : St} {σ : Nat → Option Nat} {a : Act} {w : World} {o : Oper} {r : CallRes} {ρ : Nat → Option AObj} {fr : Nat → Bool} {d : Nat} {c : Prop} {v : PV} {Δ : List (Nat × Option AObj)}

theorem list_one {α : Type} {xs : Array α} {x : α} (h : xs.toList = [x]) : xs = #[x] := by
  apply Array.ext'; simpa using h
theorem list_two {α : Type} {xs : Array α} {x y : α} (h : xs.toList = [x, y]) : xs = #[x, y] := by
  apply Array.ext'; simpa using h

theorem op_sound (R : Rel base G A w0 N st σ a w) (S : Sees st ρ fr d) (hd : ∀ x, o.dst = some x → x < N) {op : AOp} (hcomp : compOp P o.op = some op)
    (hs : sem P r op st.T ρ fr d = some (c, v, Δ)) (hc : c) : Good P base G A w0 N (st.put o.dst v Δ) o a w := by
  have hcomp0 := hcomp
  cases ho : o.op <;> rw [ho] at hcomp <;> simp only [compOp, Option.bind_eq_bind, Option.bind_eq_some_iff, Option.pure_def, Option.some.injEq, reduceCtorEq] at hcomp
  case move x =>
    obtain ⟨y, hy, rfl⟩ := hcomp
    exact good_mov R hd (.inl ho) hy hs
  case assign x =>
    obtain ⟨y, hy, rfl⟩ := hcomp
    exact good_mov R hd (.inr ho) hy hs
  case pick x y z =>
    obtain ⟨x', hx, y', hy, z', hz, rfl⟩ := hcomp
    exact good_pick R hd ho hx hy hz hs
  case alloc t =>
    obtain ⟨zs, hz, rfl⟩ := hcomp
    exact good_allocOp R S hd ho hz hs
  case box t x =>
    obtain ⟨y, hy, rfl⟩ := hcomp
    exact good_box R S hd ho hy hs
  case build t ps => exact good_build R hd ho hcomp0 hs
  case buildSlice t n ps => exact good_bsl R S hd ho hcomp0 hs
  case load t x => exact good_load R S hd ho hcomp0 hs hc
  case store t x y => exact good_store R S hd ho hcomp0 hs hc
  case nilCheck x =>
    obtain ⟨y, hy, rfl⟩ := hcomp
    exact good_nilck R S hd ho hy hs
  case binOp op t x y u =>
    split at hcomp
    all_goals try simp only [Option.bind_eq_bind, Option.bind_eq_some_iff, Option.pure_def, Option.some.injEq] at hcomp
    · obtain ⟨x', hx, y', hy, rfl⟩ := hcomp
      exact good_bin R hd ho hx hy hs hc
    · obtain ⟨x', hx, y', hy, rfl⟩ := hcomp
      exact good_bin R hd ho hx hy hs hc
    · rename_i hu
      split at hcomp
      all_goals try simp only [Option.bind_eq_bind, Option.bind_eq_some_iff, Option.pure_def, Option.some.injEq] at hcomp
      · obtain ⟨x', hx, y', hy, rfl⟩ := hcomp
        exact good_eqb (neg := false) R hd ho hu hx hy hs
      · obtain ⟨x', hx, y', hy, rfl⟩ := hcomp
        exact good_eqb (neg := true) R hd ho hu hx hy hs
      · cases hcomp
    · rename_i hu
      obtain ⟨ks, hks, hcomp⟩ := hcomp
      split at hcomp
      all_goals try simp only [Option.bind_eq_bind, Option.bind_eq_some_iff, Option.pure_def, Option.some.injEq] at hcomp
      · rename_i hgd
        split at hcomp
        all_goals try simp only [Option.bind_eq_bind, Option.bind_eq_some_iff, Option.pure_def, Option.some.injEq] at hcomp
        · obtain ⟨x', hx, y', hy, rfl⟩ := hcomp
          exact good_eqs (neg := false) R hd ho hks hu hgd hx hy hs
        · obtain ⟨x', hx, y', hy, rfl⟩ := hcomp
          exact good_eqs (neg := true) R hd ho hks hu hgd hx hy hs
        · cases hcomp
      · cases hcomp
    · cases hcomp
  case unOp op t x =>
    cases op <;> simp only [Option.bind_eq_some_iff, Option.pure_def, Option.some.injEq, reduceCtorEq] at hcomp
    obtain ⟨y, hy, rfl⟩ := hcomp
    exact good_notb R hd ho hy hs
  case convert s t x =>
    obtain ⟨_, hsu, hcomp⟩ := hcomp
    split at hcomp
    all_goals try simp only [Option.bind_eq_bind, Option.bind_eq_some_iff, Option.pure_def, Option.some.injEq] at hcomp
    · rename_i hu
      obtain ⟨y, hy, rfl⟩ := hcomp
      exact good_conv R hd ho (by rw [hsu]; rfl) hu hy hs
    · rename_i hu
      split at hcomp
      · rename_i e hsl
        split at hcomp
        · rename_i he
          simp only [Option.bind_eq_bind, Option.bind_eq_some_iff, Option.pure_def, Option.some.injEq] at hcomp
          obtain ⟨y, hy, rfl⟩ := hcomp
          exact good_bstr R S hd ho hsl hu he hy hs hc
        · cases hcomp
      · cases hcomp
    · cases hcomp
  case makeFunc fn first ks =>
    split at hcomp
    all_goals try simp only [Option.bind_eq_bind, Option.bind_eq_some_iff, Option.pure_def, Option.some.injEq] at hcomp
    · split at hcomp
      all_goals try simp only [Option.bind_eq_bind, Option.bind_eq_some_iff, Option.pure_def, Option.some.injEq] at hcomp
      · rename_i f hf
        obtain ⟨ys, hys, rfl⟩ := hcomp
        have : first = #[] := Array.eq_empty_of_size_eq_zero hf
        subst this
        exact good_fn R hd ho hys hs
      · cases hcomp
    · cases hcomp
  case makeSlice t l c => exact good_mk R S hd ho hcomp0 hs hc
  case slice t x lo hi mx =>
    split at hcomp
    all_goals try simp only [Option.bind_eq_bind, Option.bind_eq_some_iff, Option.pure_def, Option.some.injEq] at hcomp
    · cases hcomp
    · split at hcomp
      all_goals try simp only [Option.bind_eq_bind, Option.bind_eq_some_iff, Option.pure_def, Option.some.injEq] at hcomp
      · rename_i hu
        obtain ⟨n, hn, x', hx, lo', hlo, hi', hhi, rfl⟩ := hcomp
        exact good_slice R S hd ho hu hn hx hlo hhi hs hc
      · rename_i hu
        obtain ⟨x', hx, lo', hlo, hi', hhi, rfl⟩ := hcomp
        exact good_substr R hd ho hu hx hlo hhi hs hc
      · cases hcomp
  case fieldAddr t x f => exact good_faddr R S hd ho hcomp0 hs hc
  case field t x f => exact good_field R hd ho hcomp0 hs hc
  case indexAddr t x i =>
    obtain ⟨e, he, n, hn, x', hx, i', hi, rfl⟩ := hcomp
    exact good_iaddr R S hd ho (elemP_some he) hn hx hi hs hc
  case index t x i =>
    split at hcomp
    all_goals try simp only [Option.bind_eq_bind, Option.bind_eq_some_iff, Option.pure_def, Option.some.injEq] at hcomp
    · rename_i hu
      obtain ⟨x', hx, i', hi, rfl⟩ := hcomp
      exact good_istr R hd ho hu hx hi hs hc
    · cases hcomp
  case extract x i =>
    obtain ⟨y, hy, rfl⟩ := hcomp
    exact good_extr R hd ho hy hs
  case call cl =>
    obtain ⟨callee, args, argTypes⟩ := cl
    split at hcomp
    all_goals try simp only [Option.bind_eq_bind, Option.bind_eq_some_iff, Option.pure_def, Option.some.injEq] at hcomp
    · rename_i b hb
      simp only at hb
      subst hb
      cases b <;> simp only [compBuiltin, reduceCtorEq] at hcomp
      case append =>
        have hcomp1 := hcomp
        split at hcomp
        all_goals try simp only [Option.bind_eq_bind, Option.bind_eq_some_iff, Option.pure_def, Option.some.injEq] at hcomp
        · rename_i x y t u h1 h2
          rw [list_two h1, list_two h2] at ho
          exact good_app R S hd ho (by rw [h1, h2] at hcomp1; exact hcomp1) hs hc
        · cases hcomp
      case len =>
        split at hcomp
        all_goals try simp only [Option.bind_eq_bind, Option.bind_eq_some_iff, Option.pure_def, Option.some.injEq] at hcomp
        · rename_i x t h1 h2
          rw [list_one h1, list_one h2] at ho
          split at hcomp
          all_goals try simp only [Option.bind_eq_bind, Option.bind_eq_some_iff, Option.pure_def, Option.some.injEq] at hcomp
          · rename_i hu
            obtain ⟨y, hy, rfl⟩ := hcomp
            exact good_len R S hd ho hu hy hs
          · rename_i hu
            obtain ⟨y, hy, rfl⟩ := hcomp
            exact good_slen R hd ho hu hy hs
          · cases hcomp
        · cases hcomp
      case max =>
        split at hcomp
        all_goals try simp only [Option.bind_eq_bind, Option.bind_eq_some_iff, Option.pure_def, Option.some.injEq] at hcomp
        · rename_i x y h1
          rw [list_two h1] at ho
          obtain ⟨x', hx, y', hy, rfl⟩ := hcomp
          exact good_mx (big := true) R hd ho hx hy hs
        · cases hcomp
      case min =>
        split at hcomp
        all_goals try simp only [Option.bind_eq_bind, Option.bind_eq_some_iff, Option.pure_def, Option.some.injEq] at hcomp
        · rename_i x y h1
          rw [list_two h1] at ho
          obtain ⟨x', hx, y', hy, rfl⟩ := hcomp
          exact good_mx (big := false) R hd ho hx hy hs
        · cases hcomp
    · rename_i f hf
      simp only at hf
      subst hf
      obtain ⟨g', hg, xs', hxs, rfl⟩ := hcomp
      exact good_call R S hd ho hg hxs hs hc
    · cases hcomp
end
end Go.Ab
