/- Each plain operation does what the abstract view says: bytes to a string. -/
import Derived.Test.YtfbjnipamfbgmaaAbSoundE
set_option linter.unusedSimpArgs false
set_option linter.unusedVariables false
namespace Go.Ab
section
variable {P : Program} {base : Nat} {G A : Nat → Prop} {w0 : Base} {N : Nat} {st : St} {σ : Nat → Option Nat} {a : Act} {w : World} {o : Oper} {r : CallRes} {ρ : Nat → Option AObj} {fr : Nat → Bool} {d : Nat} {c : Prop} {v : PV} {Δ : List (Nat × Option AObj)}

theorem bytesOf_cells {E : Env} : ∀ {ys : List (List L)} {bs : List UInt8} {cells : List Value}, bytesOf ys = some bs → F2 (K E) ys.flatten cells → ∃ ns : List Int, cells = ns.map (Value.int .u8) ∧ bs = ns.map fun n => UInt8.ofNat n.toNat
  | [], bs, cells, h, hF => by
    cases h
    cases hF
    exact ⟨[], rfl, rfl⟩
  | r :: ys, bs, cells, h, hF => by
    simp only [bytesOf] at h
    split at h
    · rename_i b bs' hb hbs
      cases h
      unfold byteOf at hb
      split at hb
      · rename_i n
        cases hb
        simp only [List.flatten_cons, List.cons_append, List.nil_append] at hF
        cases hF with
        | cons h1 h2 =>
          obtain ⟨ns, rfl, rfl⟩ := bytesOf_cells hbs h2
          exact ⟨n :: ns, by rw [h1.1]; rfl, rfl⟩
      · cases hb
    · cases h

theorem run_pushes {f : Value → ByteArray → Sem (ForInStep ByteArray)} (hf : ∀ n s, f (.int .u8 n) s = pure (ForInStep.yield (s.push (UInt8.ofNat n.toNat)))) (ns : List Int) (w : World) :
    ∀ (s : ByteArray), (forIn (m := Sem) (ns.map (Value.int .u8)).toArray s f).run P w = .ok ⟨s.data ++ (ns.map fun n => UInt8.ofNat n.toNat).toArray⟩ w := by
  intro s
  rw [List.forIn_toArray]
  induction ns generalizing s with
  | nil => simp [List.forIn_nil]
  | cons n ns ih =>
    simp only [List.map_cons, List.forIn_cons, hf, pure_bind]
    rw [ih]
    simp [ByteArray.push]

theorem news_slice (R : Rel base G A w0 N st σ a w) (S : Sees st ρ fr d) {e : Nat} {p : PV} {y : Value} (hp : KP (env st.H σ (may base G A) w) p y) {c : Prop} {pl : Bool} {ys : List (List L)} (h : newsOf e ρ p = some (c, pl, ys)) : ∃ ad len cap, y = .slice ad len cap := by
  unfold newsOf at h
  split at h
  · rename_i k off n
    split at h
    · rename_i ob hk
      obtain ⟨ad, cap, rfl, _⟩ := K_sl hp (S.sub _ _ hk).1 (S.sub _ _ hk).2
      exact ⟨ad, n, cap, rfl⟩
    · cases h
  · rename_i q xs
    replace hp : KV _ (.vs q xs) y := hp
    cases hp
    exact ⟨_, _, _, rfl⟩
  · obtain ⟨ad, rfl⟩ := hp
    exact ⟨ad, 0, 0, rfl⟩
  · cases h

theorem good_bstr (R : Rel base G A w0 N st σ a w) (S : Sees st ρ fr d) (hd : ∀ x, o.dst = some x → x < N) {s t e : TypeId} {x : Operand} {x' : Opd} (ho : o.op = .convert s t x) (hsl : P.underlying s = some (.slice e)) (ht : P.underlying t = some .string) (he : P.underlying e = some (.int .u8)) (hx : opd x = some x')
    (hs : sem P r (.bstr x') st.T ρ fr d = some (c, v, Δ)) (hc : c) : Good P base G A w0 N (st.put o.dst v Δ) o a w := by
  have h1 := opd_ok R.tmp hx
  simp only [sem] at hs
  split at hs
  · rename_i c' pl ys hn
    split at hs
    · rename_i bs hb
      simp only [Option.some.injEq, Prod.mk.injEq] at hs
      obtain ⟨rfl, rfl, rfl⟩ := hs
      obtain ⟨cells, W, _⟩ := news_ok (P := P) R S h1 hn hc
      obtain ⟨ns, rfl, rfl⟩ := bytesOf_cells hb W.F
      refine good_value R hd (val := .string ⟨(ns.map fun n => UInt8.ofNat n.toNat).toArray⟩) ?_ ⟨rfl, rfl⟩
      have hrun := W.run w rfl
      have hlen := W.len
      have hcl := W.clen
      have hsv := news_slice R S h1 hn
      generalize hv : a.eval x = y at hrun hlen hsv
      have hconv : (convert s t y).run P w = .ok (.string ⟨(ns.map fun n => UInt8.ofNat n.toNat).toArray⟩) w := by
        cases y with
        | slice ad len cap =>
          cases ad with
          | none =>
            have hz : ys.length = 0 ∨ True := .inr trivial
            simp only [Builtin.firstCells, Sem.run_pure, Result.ok.injEq, and_true] at hrun
            have : ns = [] := by
              have := congrArg Array.size hrun
              simp at this
              exact List.eq_nil_of_length_eq_zero this.symm
            subst this
            simp [convert, run_underlying hsl, run_underlying ht, run_underlying he, Conv.bytesToString]
            rfl
          | some ad =>
            simp only [Builtin.firstCells] at hrun
            have hl : len = ys.length := by
              simp [Builtin.lenOf] at hlen
              exact hlen
            rw [Nat.mul_one, ← hl] at hrun
            simp only [convert, Sem.run_bind, run_underlying hsl, run_underlying ht, run_underlying he, Result.andThen_ok, Conv.bytesToString, hrun]
            rw [run_pushes (fun n s => rfl)]
            simp only [Result.andThen_ok, Sem.run_pure, ByteArray.empty, ByteArray.emptyWithCapacity]
            simp
            rfl
        | _ => obtain ⟨_, _, _, h⟩ := hsv; cases h
      unfold execOp; rw [ho]
      simp only [hv, Sem.run_bind, hconv, Result.andThen_ok, Sem.run_pure]
    · cases hs
  · cases hs
end
end Go.Ab
