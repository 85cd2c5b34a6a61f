/- Each plain operation does what the abstract view says: part 5 (numbers, strings, addresses). -/
import Derived.Test.YtfbjnipamfbgmaaAbSound4
set_option linter.unusedSimpArgs false
set_option linter.unusedVariables false
namespace Go.Ab
section
variable {P : Program} {base : Nat} {G A : Nat → Prop} {w0 : Base} {N : Nat} {st : St} {σ : Nat → Option Nat} {a : Act} {w : World} {o : Oper} {r : CallRes} {ρ : Nat → Option AObj} {fr : Nat → Bool} {d : Nat} {c : Prop} {v : PV} {Δ : List (Nat × Option AObj)}

theorem good_nilck (R : Rel base G A w0 N st σ a w) (S : Sees st ρ fr d) (hd : ∀ x, o.dst = some x → x < N) {x : Operand} {y : Opd} (ho : o.op = .nilCheck x) (hx : opd x = some y)
    (hs : sem P r (.nilck y) st.T ρ fr d = some (c, v, Δ)) : Good P base G A w0 N (st.put o.dst v Δ) o a w := by
  have h1 := opd_ok R.tmp hx
  simp only [sem] at hs
  split at hs
  · rename_i k e oo hp
    split at hs
    · rename_i ob hk
      simp only [Option.some.injEq, Prod.mk.injEq] at hs
      obtain ⟨_, rfl, rfl⟩ := hs
      rw [hp] at h1
      obtain ⟨hkk, hm3⟩ := S.sub _ _ hk
      obtain ⟨b, hb, hv⟩ := K_ptr h1 hkk hm3
      refine good_value R hd (val := a.eval x) ?_ h1
      unfold execOp; rw [ho]; simp [hv]
    · cases hs
  · rename_i q cs hp
    simp only [Option.some.injEq, Prod.mk.injEq] at hs
    obtain ⟨_, rfl, rfl⟩ := hs
    rw [hp] at h1
    refine good_value R hd (val := a.eval x) ?_ h1
    obtain ⟨ad, f, hv, _⟩ := h1
    unfold execOp; rw [ho]; simp [hv]
  · rename_i f ks hp
    simp only [Option.some.injEq, Prod.mk.injEq] at hs
    obtain ⟨_, rfl, rfl⟩ := hs
    rw [hp] at h1
    refine good_value R hd (val := a.eval x) ?_ h1
    obtain ⟨ys, hv, _⟩ := h1
    unfold execOp; rw [ho]; simp [hv]
  · cases hs

theorem inK_wrap {k : IntKind} {n : Int} (h : inK k n) : k.wrap n = n := by
  obtain ⟨h1, h2⟩ := h
  cases k <;> simp [IntKind.wrap, IntKind.min, IntKind.max, IntKind.signed, IntKind.bits] at h1 h2 ⊢ <;> omega

theorem run_eqGuard_lit (op : BinOp) (t : TypeId) (x y : Operand) {u v : Value} (hu : lit u = true) (hn : u ≠ .nilIface) (w : World) : (eqGuard op t x y u v).run P w = .ok () w := by
  cases u <;> first | (simp [lit] at hu; done) | (exact absurd rfl hn) | (cases op <;> simp [eqGuard])

theorem run_binI {op : BinOp} {k : IntKind} {m n : Int} {c : Prop} {val : Value} (h : binI op k m n = some (c, val)) (hc : c) (t : TypeId) (w : World) : (binOp op t (.int k m) (.int k n)).run P w = .ok val w := by
  cases op <;> simp only [binI, Option.some.injEq, Prod.mk.injEq] at h <;> obtain ⟨rfl, rfl⟩ := h
  all_goals first
    | (simp [binOp, Op.intArith, inK_wrap hc]; done)
    | (simp [binOp, Op.intBits]; done)
    | skip
  · simp [binOp, Op.intDiv, hc.1, inK_wrap hc.2]
  · simp [binOp, Op.intDiv, hc]
  · simp [binOp, Op.shift]; omega
  · simp [binOp, Op.shift]; omega
  all_goals (simp [binOp, Op.intCmp]; try rfl)

theorem toList_beq (a b : ByteArray) : (a.toList == b.toList) = decide (a = b) := by
  by_cases h : a = b
  · subst h; simp
  · rw [decide_eq_false h, beq_eq_false_iff_ne]
    intro h'
    apply h
    rw [ByteArray.toList_eq, ByteArray.toList_eq] at h'
    cases a; cases b
    simpa [← Array.toList_inj] using h'

theorem run_binS {op : BinOp} {m n : ByteArray} {c : Prop} {val : Value} (h : binS op m n = some (c, val)) (hc : c) (t : TypeId) (w : World) : (binOp op t (.string m) (.string n)).run P w = .ok val w := by
  cases op <;> simp only [binS, Option.some.injEq, Prod.mk.injEq, reduceCtorEq] at h <;> obtain ⟨rfl, rfl⟩ := h
  · simp only [binOp, Op.stringOp]
    rw [if_neg (by simp [IntKind.max, IntKind.signed, IntKind.bits]; omega)]
    rfl
  · simp only [binOp, Op.stringOp, toList_beq, Sem.run_pure]
  · simp only [binOp, Op.stringOp, toList_beq, Sem.run_pure, decide_not]

theorem good_bin (R : Rel base G A w0 N st σ a w) (hd : ∀ x, o.dst = some x → x < N) {op : BinOp} {t u : TypeId} {x y : Operand} {x' y' : Opd} (ho : o.op = .binOp op t x y u) (hx : opd x = some x') (hy : opd y = some y')
    (hs : sem P r (.bin op x' y') st.T ρ fr d = some (c, v, Δ)) (hc : c) : Good P base G A w0 N (st.put o.dst v Δ) o a w := by
  have h1 := opd_ok R.tmp hx
  have h2 := opd_ok R.tmp hy
  simp only [sem] at hs
  have fin : ∀ val, (binOp op t (a.eval x) (a.eval y)).run P w = .ok val w → lit (a.eval x) = true → a.eval x ≠ .nilIface → lit val = true → v = .l (.v val) → Δ = [] → Good P base G A w0 N (st.put o.dst v Δ) o a w := by
    rintro val hr hl hn hlv rfl rfl
    refine good_value R hd (val := val) ?_ ⟨rfl, hlv⟩
    unfold execOp; rw [ho]
    simp only [Sem.run_bind, run_eqGuard_lit op t x y hl hn, Result.andThen_ok, hr, Sem.run_pure]
  split at hs
  · rename_i k m k' n hp hq
    rw [hp] at h1; rw [hq] at h2
    obtain ⟨h1, _⟩ := h1
    obtain ⟨h2, _⟩ := h2
    split at hs
    · rename_i hk
      subst hk
      simp only [Option.map_eq_some_iff, Prod.mk.injEq] at hs
      obtain ⟨⟨c', val⟩, hb, rfl, hv, hD⟩ := hs
      refine fin val ?_ (by rw [h1]; rfl) (by rw [h1]; simp) ?_ hv.symm hD.symm
      · rw [h1, h2]; exact run_binI hb hc t w
      · cases op <;> simp only [binI, Option.some.injEq, Prod.mk.injEq] at hb <;> obtain ⟨_, rfl⟩ := hb <;> rfl
    · cases hs
  · rename_i m n hp hq
    rw [hp] at h1; rw [hq] at h2
    obtain ⟨h1, _⟩ := h1
    obtain ⟨h2, _⟩ := h2
    simp only [Option.map_eq_some_iff, Prod.mk.injEq] at hs
    obtain ⟨⟨c', val⟩, hb, rfl, hv, hD⟩ := hs
    refine fin val ?_ (by rw [h1]; rfl) (by rw [h1]; simp) ?_ hv.symm hD.symm
    · rw [h1, h2]; exact run_binS hb hc t w
    · cases op <;> simp only [binS, Option.some.injEq, Prod.mk.injEq, reduceCtorEq] at hb <;> obtain ⟨_, rfl⟩ := hb <;> rfl
  · cases hs

theorem good_eqb (R : Rel base G A w0 N st σ a w) (hd : ∀ x, o.dst = some x → x < N) {neg : Bool} {t u : TypeId} {x y : Operand} {x' y' : Opd} (ho : o.op = .binOp (if neg then .neq else .eql) t x y u) (ht : P.underlying t = some .bool) (hx : opd x = some x') (hy : opd y = some y')
    (hs : sem P r (.eqb neg x' y') st.T ρ fr d = some (c, v, Δ)) : Good P base G A w0 N (st.put o.dst v Δ) o a w := by
  have h1 := opd_ok R.tmp hx
  have h2 := opd_ok R.tmp hy
  simp only [sem] at hs
  split at hs
  · rename_i m n hp hq
    rw [hp] at h1; rw [hq] at h2
    obtain ⟨h1, _⟩ := h1
    obtain ⟨h2, _⟩ := h2
    simp only [Option.some.injEq, Prod.mk.injEq] at hs
    obtain ⟨_, rfl, rfl⟩ := hs
    refine good_value R hd (val := .bool (if neg then decide (m ≠ n) else decide (m = n))) ?_ ⟨rfl, rfl⟩
    unfold execOp; rw [ho]
    cases neg
    · simp only [Sem.run_bind, h1, h2, Bool.false_eq_true, if_false, run_eqGuard_lit .eql t x y (u := .bool m) rfl (by simp), Result.andThen_ok, run_eql_bool w t m n ht, Sem.run_pure]
      cases m <;> cases n <;> rfl
    · simp only [Sem.run_bind, h1, h2, if_true, run_eqGuard_lit .neq t x y (u := .bool m) rfl (by simp), Result.andThen_ok, run_neq_bool w t m n ht, Sem.run_pure]
      cases m <;> cases n <;> rfl
  · cases hs

theorem good_notb (R : Rel base G A w0 N st σ a w) (hd : ∀ x, o.dst = some x → x < N) {t : TypeId} {x : Operand} {y : Opd} (ho : o.op = .unOp .not t x) (hx : opd x = some y)
    (hs : sem P r (.notb y) st.T ρ fr d = some (c, v, Δ)) : Good P base G A w0 N (st.put o.dst v Δ) o a w := by
  have h1 := opd_ok R.tmp hx
  simp only [sem] at hs
  split at hs
  · rename_i m hp
    rw [hp] at h1
    obtain ⟨h1, _⟩ := h1
    simp only [Option.some.injEq, Prod.mk.injEq] at hs
    obtain ⟨_, rfl, rfl⟩ := hs
    refine good_value R hd (val := .bool (!m)) ?_ ⟨rfl, rfl⟩
    unfold execOp; rw [ho]; simp [h1, Op.unary]
  · cases hs

theorem good_conv (R : Rel base G A w0 N st σ a w) (hd : ∀ x, o.dst = some x → x < N) {s t : TypeId} {k : IntKind} {x : Operand} {y : Opd} (ho : o.op = .convert s t x) (hsu : (P.underlying s).isSome = true) (ht : P.underlying t = some (.int k)) (hx : opd x = some y)
    (hs : sem P r (.conv k y) st.T ρ fr d = some (c, v, Δ)) : Good P base G A w0 N (st.put o.dst v Δ) o a w := by
  have h1 := opd_ok R.tmp hx
  simp only [sem] at hs
  split at hs
  · rename_i k' n hp
    rw [hp] at h1
    obtain ⟨h1, _⟩ := h1
    simp only [Option.some.injEq, Prod.mk.injEq] at hs
    obtain ⟨_, rfl, rfl⟩ := hs
    refine good_value R hd (val := .int k (k.wrap n)) ?_ ⟨rfl, rfl⟩
    obtain ⟨ds, hds⟩ := Option.isSome_iff_exists.mp hsu
    unfold execOp; rw [ho]
    simp [h1, convert, run_underlying hds, run_underlying ht, Conv.intToInt]
  · cases hs

theorem good_extr (R : Rel base G A w0 N st σ a w) (hd : ∀ x, o.dst = some x → x < N) {i : Nat} {x : Operand} {y : Opd} (ho : o.op = .extract x i) (hx : opd x = some y)
    (hs : sem P r (.extr i y) st.T ρ fr d = some (c, v, Δ)) : Good P base G A w0 N (st.put o.dst v Δ) o a w := by
  have h1 := opd_ok R.tmp hx
  simp only [sem] at hs
  split at hs
  · rename_i ps hp
    rw [hp] at h1
    obtain ⟨ys, hv, hF⟩ := h1
    simp only [Option.map_eq_some_iff, Prod.mk.injEq] at hs
    obtain ⟨p, hpi, rfl, rfl, rfl⟩ := hs
    obtain ⟨y', hy', hk⟩ := hF.get hpi
    refine good_value R hd (val := y') ?_ (KP_of_KP1 hk)
    unfold execOp; rw [ho]
    simp [hv, Instr.extract, hy']
  · cases hs

theorem good_len (R : Rel base G A w0 N st σ a w) (S : Sees st ρ fr d) (hd : ∀ x, o.dst = some x → x < N) {t : TypeId} {x : Operand} {y : Opd} (ho : o.op = .call { callee := .builtin .len, args := #[x], argTypes := #[t] })
    {e : TypeId} (ht : P.underlying t = some (.slice e)) (hx : opd x = some y)
    (hs : sem P r (.len y) st.T ρ fr d = some (c, v, Δ)) : Good P base G A w0 N (st.put o.dst v Δ) o a w := by
  have h1 := opd_ok R.tmp hx
  simp only [sem] at hs
  have hslice : ∀ ad n m, a.eval x = .slice ad n m → (execOp a.eval o).run P w = .ok (.value (.int .i64 n)) w := by
    intro ad n m hv
    unfold execOp; rw [ho]
    simp [hv, resolve, invoke, builtin, Builtin.len_, run_underlying ht, goInt]
  split at hs
  · rename_i k off n hp
    split at hs
    · rename_i ob hk
      simp only [Option.some.injEq, Prod.mk.injEq] at hs
      obtain ⟨_, rfl, rfl⟩ := hs
      rw [hp] at h1
      obtain ⟨hkk, hm3⟩ := S.sub _ _ hk
      obtain ⟨ad, cap, hv, _⟩ := K_sl h1 hkk hm3
      exact good_value R hd (hslice _ _ _ hv) ⟨rfl, rfl⟩
    · cases hs
  · rename_i q xs hp
    simp only [Option.some.injEq, Prod.mk.injEq] at hs
    obtain ⟨_, rfl, rfl⟩ := hs
    rw [hp] at h1
    have : ∃ ad cap, a.eval x = .slice ad xs.length cap := by
      revert h1
      generalize a.eval x = z
      intro h1
      cases h1
      exact ⟨_, _, rfl⟩
    obtain ⟨ad, cap, hv⟩ := this
    exact good_value R hd (hslice _ _ _ hv) ⟨rfl, rfl⟩
  · rename_i hp
    simp only [Option.some.injEq, Prod.mk.injEq] at hs
    obtain ⟨_, rfl, rfl⟩ := hs
    rw [hp] at h1
    obtain ⟨ad, hv⟩ := h1
    exact good_value R hd (hslice _ _ _ hv) ⟨rfl, rfl⟩
  · cases hs

theorem good_slen (R : Rel base G A w0 N st σ a w) (hd : ∀ x, o.dst = some x → x < N) {t : TypeId} {x : Operand} {y : Opd} (ho : o.op = .call { callee := .builtin .len, args := #[x], argTypes := #[t] })
    (ht : P.underlying t = some .string) (hx : opd x = some y)
    (hs : sem P r (.slen y) st.T ρ fr d = some (c, v, Δ)) : Good P base G A w0 N (st.put o.dst v Δ) o a w := by
  have h1 := opd_ok R.tmp hx
  simp only [sem] at hs
  split at hs
  · rename_i s hp
    simp only [Option.some.injEq, Prod.mk.injEq] at hs
    obtain ⟨_, rfl, rfl⟩ := hs
    rw [hp] at h1
    obtain ⟨hv, _⟩ := h1
    refine good_value R hd (val := .int .i64 s.size) ?_ ⟨rfl, rfl⟩
    unfold execOp; rw [ho]
    simp [hv, resolve, invoke, builtin, Builtin.len_, run_underlying ht, goInt]
  · cases hs

theorem good_mx (R : Rel base G A w0 N st σ a w) (hd : ∀ x, o.dst = some x → x < N) {big : Bool} {ts : Array TypeId} {x y : Operand} {x' y' : Opd} (ho : o.op = .call { callee := .builtin (if big then .max else .min), args := #[x, y], argTypes := ts })
    (hx : opd x = some x') (hy : opd y = some y') (hs : sem P r (.mx big x' y') st.T ρ fr d = some (c, v, Δ)) : Good P base G A w0 N (st.put o.dst v Δ) o a w := by
  have h1 := opd_ok R.tmp hx
  have h2 := opd_ok R.tmp hy
  simp only [sem] at hs
  split at hs
  · rename_i k m k' n hp hq
    rw [hp] at h1; rw [hq] at h2
    obtain ⟨h1, _⟩ := h1
    obtain ⟨h2, _⟩ := h2
    simp only [Option.some.injEq, Prod.mk.injEq] at hs
    obtain ⟨_, rfl, rfl⟩ := hs
    refine good_value R hd (val := .int k (if big then (if n > m then n else m) else (if n < m then n else m))) ?_ ⟨rfl, rfl⟩
    unfold execOp; rw [ho]
    cases big
    · simp [h1, h2, resolve, invoke, builtin, run_min_int2]
    · simp [h1, h2, resolve, invoke, builtin, run_max_int2]
  · cases hs

theorem fieldOf_some {t : TypeId} {f off n : Nat} {g : Bool} (h : fieldOf P t f = some (off, n, g)) : ∃ fs x, P.underlying t = some (.struct fs) ∧ fs[f]? = some x ∧ x.offset = off ∧ sizeP P x.type = some n ∧ aggP P x.type = some g := by
  unfold fieldOf at h
  split at h
  · rename_i fs hu
    simp only [Option.bind_eq_some_iff] at h
    obtain ⟨x, hx, h⟩ := h
    split at h
    · rename_i n' g' h1 h2
      simp only [Option.some.injEq, Prod.mk.injEq] at h
      obtain ⟨rfl, rfl, rfl⟩ := h
      exact ⟨fs, x, hu, hx, rfl, h1, h2⟩
    · cases h
  · cases h

theorem good_faddr (R : Rel base G A w0 N st σ a w) (S : Sees st ρ fr d) (hd : ∀ x, o.dst = some x → x < N) {t : TypeId} {f : Nat} {x : Operand} {op : AOp} (ho : o.op = .fieldAddr t x f) (hcomp : compOp P o.op = some op)
    (hs : sem P r op st.T ρ fr d = some (c, v, Δ)) (hc : c) : Good P base G A w0 N (st.put o.dst v Δ) o a w := by
  rw [ho] at hcomp
  simp only [compOp, Option.bind_eq_bind, Option.bind_eq_some_iff] at hcomp
  obtain ⟨⟨off, n, g⟩, hf, hcomp⟩ := hcomp
  split at hcomp
  · rename_i hn
    simp only [Option.bind_eq_some_iff, Option.pure_def, Option.some.injEq] at hcomp
    obtain ⟨y, hy, rfl⟩ := hcomp
    obtain ⟨fs, fx, hu, hfx, hoff, hsz, _⟩ := fieldOf_some hf
    have h1 := opd_ok R.tmp hy
    have hrun : ∀ ad, a.eval x = .pointer (some ad) → (execOp a.eval o).run P w = .ok (.value (.pointer (some (ad.add off)))) w := by
      intro ad hv
      unfold execOp; rw [ho]
      simp [hv, Instr.fieldAt, run_underlying hu, hfx, Instr.sureAddr, fieldPlace, run_sizeOf hsz, hn, hoff]
    simp only [sem] at hs
    split at hs
    · rename_i k e oo hp
      split at hs
      · rename_i ob hk
        simp only [Option.some.injEq, Prod.mk.injEq] at hs
        obtain ⟨_, rfl, rfl⟩ := hs
        rw [hp] at h1
        obtain ⟨hkk, hm3⟩ := S.sub _ _ hk
        obtain ⟨b, hb, hv⟩ := K_ptr h1 hkk hm3
        refine good_value R hd (hrun _ hv) ?_
        rw [addr_add, Nat.add_assoc]
        exact K_ptr_mk hkk hm3 hb
      · cases hs
    · rename_i q cs hp
      simp only [Option.some.injEq, Prod.mk.injEq] at hs
      obtain ⟨rfl, rfl, rfl⟩ := hs
      rw [hp] at h1
      obtain ⟨ad, f', hv, hh⟩ := h1
      refine good_value R hd (hrun _ hv) ⟨ad.add off, fun t => f' (off + t), rfl, ?_⟩
      intro t' ht'
      have hlt : off + t' < cs.length := by simp at ht'; omega
      have := hh (off + t') hlt
      rw [add_add]
      simpa using this
    · cases hs
  · cases hcomp

theorem good_field (R : Rel base G A w0 N st σ a w) (hd : ∀ x, o.dst = some x → x < N) {t : TypeId} {f : Nat} {x : Operand} {op : AOp} (ho : o.op = .field t x f) (hcomp : compOp P o.op = some op)
    (hs : sem P r op st.T ρ fr d = some (c, v, Δ)) (hc : c) : Good P base G A w0 N (st.put o.dst v Δ) o a w := by
  rw [ho] at hcomp
  simp only [compOp, Option.bind_eq_bind, Option.bind_eq_some_iff] at hcomp
  obtain ⟨⟨off, n, g⟩, hf, hcomp⟩ := hcomp
  split at hcomp
  · rename_i hgn
    have hgn' : g = true ∨ n = 1 := by simpa using hgn
    simp only [Option.bind_eq_some_iff, Option.pure_def, Option.some.injEq] at hcomp
    obtain ⟨y, hy, rfl⟩ := hcomp
    obtain ⟨fs, fx, hu, hfx, hoff, hsz, hag⟩ := fieldOf_some hf
    have h1 := opd_ok R.tmp hy
    simp only [sem] at hs
    split at hs
    · rename_i cs hp
      simp only [Option.map_eq_some_iff, Prod.mk.injEq] at hs
      obtain ⟨p, hp1, rfl, rfl, rfl⟩ := hs
      rw [hp] at h1
      obtain ⟨ys, hv, hF⟩ := h1
      have hl := hF.length
      have hF' := ((hF.append_inv off).2.append_inv n).1
      cases g with
      | true =>
        refine good_value R hd (val := .agg ⟨(ys.drop off).take n⟩) ?_ (one_ok hp1 hF' (fun _ => rfl) (fun h => by cases h))
        unfold execOp; rw [ho]
        simp [hv, Instr.field, run_underlying hu, hfx, part, run_isAgg hag, run_sizeOf hsz, asAgg, hoff]
      | false =>
        have hn1 : n = 1 := by simpa using hgn'
        obtain ⟨u, hu1⟩ : ∃ u, (ys.drop off).take n = [u] := List.length_eq_one_iff.mp (by simp; omega)
        refine good_value R hd (val := u) ?_ (one_ok hp1 hF' (fun h => by cases h) (fun _ => hu1))
        have hget : ys[off]? = some u := by
          have := congrArg (·[0]?) hu1
          simpa [hn1] using this
        unfold execOp; rw [ho]
        simp [hv, Instr.field, run_underlying hu, hfx, part, run_isAgg hag, asAgg, hoff, hget]
    · cases hs
  · cases hcomp
end
end Go.Ab
