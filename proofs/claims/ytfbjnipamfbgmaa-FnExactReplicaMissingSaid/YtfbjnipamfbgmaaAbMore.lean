/- An empty slice, told as one of the call's own. -/
import Derived.Test.YtfbjnipamfbgmaaAbOpen
set_option linter.unusedSimpArgs false
set_option linter.unusedVariables false
namespace Go.Ab
section
variable {base : Nat} {G A : Nat → Prop} {w0 : Base} {N : Nat} {st : St} {σ : Nat → Option Nat} {a : Act} {w : World}

theorem Rel.empty (R : Rel base G A w0 N st σ a w) {t k e : Nat} (hT : st.T t = .l .emp) (hk : st.H k = none) (hge : 1000 ≤ k) :
    Rel base G A w0 N ⟨upd st.T t (.l (.sl k 0 0)), upd st.H k (some ⟨0, true, e, []⟩)⟩ (upd σ k none) a w := by
  have hH : ∀ j o, st.H j = some o → upd st.H k (some ⟨0, true, e, []⟩) j = some o ∧ upd σ k none j = σ j := by
    intro j o h
    have : j ≠ k := by rintro rfl; rw [hk] at h; cases h
    exact ⟨by rw [upd_ne _ _ this]; exact h, upd_ne _ _ this⟩
  have hle : (env st.H σ (may base G A) w).Le (env (upd st.H k (some ⟨0, true, e, []⟩)) (upd σ k none) (may base G A) w) := by
    constructor
    · rintro q ad v ⟨h1, h2, h3⟩
      refine ⟨h1, h2, fun j o hj hm => ?_⟩
      by_cases hjk : j = k
      · subst hjk; simp [upd]
      · rw [upd_ne _ _ hjk] at hj ⊢
        exact h3 j o hj hm
    · rintro j ⟨o, h, hm⟩
      obtain ⟨h1, h2⟩ := hH j o h
      refine .inr ⟨⟨o, h1, hm⟩, h2, ?_, ?_⟩
      · simp only [env, h1, h]
      · simp only [env, h2]; exact Nat.le_refl _
    · rintro j ⟨o, h, hm⟩
      exact ⟨o, (hH j o h).1, hm⟩
  have R2 := R.turn (H' := upd st.H k (some ⟨0, true, e, []⟩)) (σ' := upd σ k none) (w' := w) hle ?_ ?_ ?_ (fun _ _ _ => rfl) (Nat.le_refl _) rfl rfl rfl (fun _ => Nat.le_refl _) ?_
  · refine ⟨R2.inj, R2.obj, R2.own, ?_, R2.keep, R2.size, R2.os, R2.tape, R2.output, R2.defs, R2.n, R2.grow, R2.pin⟩
    intro j
    by_cases hj : j = t
    · subst hj
      have h := R.tmp j
      rw [hT] at h
      obtain ⟨ad, h⟩ := h
      simp only [upd_same]
      rw [h]
      exact .inr ⟨⟨_, upd_same _ _ _, by simp⟩, ad, 0, rfl, Nat.zero_le _, .inl ⟨rfl, rfl⟩⟩
    · simp only [upd_ne _ _ hj]
      exact R2.tmp j
  · intro i j o o' b hi hj hb hb'
    have hik : i ≠ k := by rintro rfl; simp [upd] at hb
    have hjk : j ≠ k := by rintro rfl; simp [upd] at hb'
    rw [upd_ne _ _ hik] at hi hb
    rw [upd_ne _ _ hjk] at hj hb'
    exact R.inj i j o o' b hi hj hb hb'
  · intro j o hj hm
    by_cases hjk : j = k
    · subst hjk
      rw [upd_same] at hj; cases hj
      exact .inl ⟨upd_same _ _ _, rfl⟩
    · rw [upd_ne _ _ hjk] at hj
      exact Objs.mono hle (upd_ne _ _ hjk) (fun _ _ _ _ hh => hh) (R.obj j o hj hm)
  · intro j o b hj hm hb
    have hjk : j ≠ k := by rintro rfl; simp [upd] at hb
    rw [upd_ne _ _ hjk] at hj hb
    exact R.own j o b hj hm hb
  · intro i o hi hj hm
    have hik : i ≠ k := by omega
    simp only [upd_ne _ _ hik] at hj ⊢
    exact ⟨o, hj, hm, trivial⟩
end

/-- An empty slice in slot t: from here on it is object k. -/
theorem AW.empty {P : Program} {N : Nat} {ac : ACode} {T : Nat → PV} {H : Nat → Option AObj} {Q : AX → St → Prop} (t k e : Nat) (hT : T t = .l .emp) (hk : H k = none) (hge : 1000 ≤ k)
    (h : AW P N ac ⟨upd T t (.l (.sl k 0 0)), upd H k (some ⟨0, true, e, []⟩)⟩ Q) : AW P N ac ⟨T, H⟩ Q :=
  fun hm c base G A w0 _ a w hc R => h hm c base G A w0 _ a w hc (R.empty hT hk hge)

theorem callOk_newA {P : Program} {f : FuncId} {fn : Func} {ac : ACode} {args : List PV} {r : RV} {n : Nat} {o : AObj}
    (hm : P.follows .mixedOrders = true) (hf : P.funcs[f]? = some fn) (hname : (fn.name == "runtime.NumGoroutine") = false) (hc : fn.body.bind (comp P fn.ntmps) = some ac)
    (hargs : args.length ≤ fn.ntmps) (hrs : fn.results.toList.mapM (rvOf P) = some [r]) (ho : o.m = 0) (hpl : o.pl = true) (hb : ∀ r ∈ o.es, ∀ x ∈ r, HB x)
    (h : AW P fn.ntmps ac ⟨mkT 0 args, fun _ => none⟩ (retS r n o)) : CallOk P f args [] (.l (.sl 0 0 n)) [] [o] := by
  obtain ⟨c, hb', hc'⟩ := Option.bind_eq_some_iff.mp hc
  refine callOk_of hm hf hname hb' hc' hargs (by simp) hrs ?_
  have e : (fun k : Nat => ([] : List AObj)[k]?) = fun _ => none := by funext k; simp
  rw [argT_mkT, e]
  refine h.mono ?_
  intro x s hx
  cases x with
  | x id => exact hx.elim
  | n => obtain ⟨k, m, h1, h2, h3⟩ := hx; exact ⟨fun id e => AX.noConfusion e, finOk_new h1 h2 h3 ho hpl hb⟩
  | r => obtain ⟨k, m, h1, h2, h3⟩ := hx; exact ⟨fun id e => AX.noConfusion e, finOk_new h1 h2 h3 ho hpl hb⟩

theorem renP_pures {r : Nat → Nat} {ps : List PV} (h : ps.all pureP = true) : renP r (.tup ps) = .tup ps := by
  simp only [renP, PV.tup.injEq]
  induction ps with
  | nil => rfl
  | cons p ps ih =>
    simp only [List.all_cons, Bool.and_eq_true] at h
    have e : renP1 r p = p := by
      have := renP_pure (r := r) h.1
      cases p <;> first | exact this | (simp [pureP] at h)
    rw [List.map_cons, e, ih h.2]

/-- A call with plain results, several. -/
theorem CS.viewT {P : Program} {g : Nat} {args args' : List PV} {ps : List PV} {d : Option Nat} {T : Nat → PV} {H : Nat → Option AObj} {K : List Nat × List Nat → St → Prop}
    (hc : CallOk P g args' [] (.tup ps) [] []) (ha : ∀ p ∈ args, argPOk [] (vis H) p) (he : args.map (argP [] (vis H)) = args') (hv : ps.all pureP = true) (hk : K (args.flatMap (footP [] (vis H)) ++ [], []) ((⟨T, H⟩ : St).put d (.tup ps) [])) : CS P g args d ⟨T, H⟩ K := by
  refine CS.mk ⟨⟨[], .tup ps, [], [], []⟩, rfl, rfl, ha, ⟨.nil, by simp [callIns], trivial⟩, ?_, ?_⟩
  · rw [he]; exact hc
  · simp only [renP_pures hv]
    exact hk

/-- A call that is handed objects and hands them back, perhaps changed, with a plain result; they are all it touches. -/
theorem CS.turn {P : Program} {g : Nat} {args args' : List PV} {val : PV} {o o' : AObj} {d : Option Nat} {T : Nat → PV} {H : Nat → Option AObj} {K : List Nat × List Nat → St → Prop} (k : Nat)
    (hc : CallOk P g args' [o] val [some o'] []) (ha : ∀ p ∈ args, argPOk [k] (vis H) p) (he : args.map (argP [k] (vis H)) = args') (hH : H k = some o) (hm : o.m = 0) (hpl : o.pl = true) (hpl' : o'.pl = true) (hee : o'.e = o.e) (hv : pureP val = true)
    (hk : K (args.flatMap (footP [k] (vis H)) ++ [k], [k]) ((⟨T, H⟩ : St).put d val [(k, some o')])) : CS P g args d ⟨T, H⟩ K := by
  have hvis : vis H k = some o := by simp [vis, hH, hm]
  refine CS.mk ⟨⟨[k], val, [some o'], [], []⟩, ?_, rfl, ha, ⟨by simp, ?_, ?_⟩, ?_, ?_⟩
  · simp [hvis]
  · intro x hx
    simp only [callIns, List.map_cons, List.map_nil, hvis, Option.getD_some, List.mem_singleton] at hx
    subst hx
    exact ⟨hm, .inl hpl⟩
  · simp only [callIns, List.map_cons, List.map_nil, hvis, Option.getD_some]
    exact ⟨hee, trivial⟩
  · rw [he]
    have : (callIns [k] (vis H)).map (inO [k]) = [o] := by simp [callIns, hvis, inO, hpl]
    rw [this]
    exact hc
  · simp only [renP_pure hv]
    have : callBack [k] (d.getD 0 + 1000) [some o'] = [(k, some o')] := by simp [callBack, backO, renO, hpl']
    rw [this]
    exact hk

theorem F2.map_imp {α β γ : Type} {R : α → β → Prop} {S : γ → β → Prop} {as : List α} {cs : List γ} {bs : List β} (h : F2 (fun a c => ∀ b, R a b → S c b) as cs) (k : F2 R as bs) : F2 S cs bs := by
  induction h generalizing bs with
  | nil => cases k; exact .nil
  | cons hab _ ih =>
    cases k with
    | cons h1 h2 => exact .cons (hab _ h1) (ih h2)

/-- Arguments that tell more. -/
theorem CallOk.args {P : Program} {f : FuncId} {as as' : List PV} {ins : List AObj} {val : PV} {outs : List (Option AObj)} {news : List AObj} (hF : F2 (fun p p' => ∀ (E : Env) (y : Value), KP1 E p y → KP1 E p' y) as as') (h : CallOk P f as' ins val outs news) : CallOk P f as ins val outs news := by
  refine ⟨h.able, fun w A σ cargs h1 h2 h3 h4 => h.run w A σ cargs h1 h2 h3 ?_⟩
  exact F2.map_imp (hF.mono fun p p' hp y hy => hp _ y hy) h4

theorem emp_vs (q : Bool) : ∀ (E : Env) (y : Value), KP1 E (.l .emp) y → KP1 E (.l (.vs q [])) y := by
  rintro E y ⟨a, rfl⟩
  exact KV.vs (xs := []) ⟨0, 0, none⟩ 0 (fun _ _ => undef) (Nat.zero_le _) (Nat.zero_le _) (.inl rfl) (by simp) (by intro j t hj; simp at hj) (by intro j t hj; simp at hj)

theorem arg_id (p : PV) : ∀ (E : Env) (y : Value), KP1 E p y → KP1 E p y := fun _ _ h => h
/-- The same with two objects. -/
theorem CS.turn2 {P : Program} {g : Nat} {args args' : List PV} {val : PV} {o1 o1' o2 o2' : AObj} {d : Option Nat} {T : Nat → PV} {H : Nat → Option AObj} {K : List Nat × List Nat → St → Prop} (k1 k2 : Nat) (hne : k1 ≠ k2)
    (hc : CallOk P g args' [o1, o2] val [some o1', some o2'] []) (ha : ∀ p ∈ args, argPOk [k1, k2] (vis H) p) (he : args.map (argP [k1, k2] (vis H)) = args') (hH1 : H k1 = some o1) (hH2 : H k2 = some o2)
    (h1 : o1.m = 0 ∧ o1.pl = true ∧ o1'.pl = true ∧ o1'.e = o1.e) (h2 : o2.m = 0 ∧ o2.pl = true ∧ o2'.pl = true ∧ o2'.e = o2.e) (hv : pureP val = true)
    (hk : K (args.flatMap (footP [k1, k2] (vis H)) ++ [k1, k2], [k1, k2]) ((⟨T, H⟩ : St).put d val [(k1, some o1'), (k2, some o2')])) : CS P g args d ⟨T, H⟩ K := by
  have v1 : vis H k1 = some o1 := by simp [vis, hH1, h1.1]
  have v2 : vis H k2 = some o2 := by simp [vis, hH2, h2.1]
  have hci : callIns [k1, k2] (vis H) = [o1, o2] := by simp [callIns, v1, v2]
  refine CS.mk ⟨⟨[k1, k2], val, [some o1', some o2'], [], []⟩, ?_, rfl, ha, ⟨by simp [hne], ?_, ?_⟩, ?_, ?_⟩
  · simp [v1, v2]
  · intro x hx
    simp only [hci, List.mem_cons, List.not_mem_nil, or_false] at hx
    rcases hx with rfl | rfl
    · exact ⟨h1.1, .inl h1.2.1⟩
    · exact ⟨h2.1, .inl h2.2.1⟩
  · simp only [hci]
    exact ⟨h1.2.2.2, h2.2.2.2, trivial⟩
  · rw [he]
    have : (callIns [k1, k2] (vis H)).map (inO [k1, k2]) = [o1, o2] := by simp [hci, inO, h1.2.1, h2.2.1]
    rw [this]
    exact hc
  · simp only [renP_pure hv]
    have : callBack [k1, k2] (d.getD 0 + 1000) [some o1', some o2'] = [(k1, some o1'), (k2, some o2')] := by simp [callBack, backO, renO, h1.2.2.1, h2.2.2.1]
    rw [this]
    exact hk
end Go.Ab
