/- A walk that simp can take: the code's operations one by one; loops and calls stand still. -/
import Derived.Test.YtfbjnipamfbgmaaAbCode
set_option linter.unusedSimpArgs false
set_option linter.unusedVariables false
namespace Go.Ab

def gdS (g : Option Bool) (A B : Prop) : Prop := match g with
  | some true => A
  | some false => B
  | none => False

theorem gdS_true (A B : Prop) : gdS (some true) A B = A := rfl
theorem gdS_false (A B : Prop) : gdS (some false) A B = B := rfl
theorem gdS_some (x : Bool) (A B : Prop) : gdS (some x) A B = ((x = true → A) ∧ (x = false → B)) := by
  cases x <;> simp [gdS]

def boolOf : PV → Option Bool
  | .l (.v (.bool x)) => some x
  | _ => none

theorem boolOf_b (x : Bool) : boolOf (.l (.v (.bool x))) = some x := rfl

def gdT (t : Nat) (b : Bool) (p : PV) : Option Bool := match p with
  | .l (.v (.bool x)) => some (x == b)
  | .tup [] => some false
  | _ => none

theorem gdT_t (t : Nat) (x : Bool) : gdT t true (.l (.v (.bool x))) = some x := by cases x <;> rfl
theorem gdT_f (t : Nat) (x : Bool) : gdT t false (.l (.v (.bool x))) = some (!x) := by cases x <;> rfl
theorem gdT_u (t : Nat) (b : Bool) : gdT t b (.tup []) = some false := rfl

def CS0 (P : Program) (g : Nat) (args : List PV) (d : Option Nat) (st : St) (K : List Nat × List Nat → St → Prop) : Prop :=
  ∃ r : CallRes, (r.ks.all fun k => (vis st.H k).isSome) = true ∧ ((List.range r.news.length).all fun j => fre st.H (key (d.getD 0 + 1000) j)) = true ∧
    (∀ p ∈ args, argPOk r.ks (vis st.H) p) ∧ (r.ks.Nodup ∧ (∀ o ∈ callIns r.ks (vis st.H), inOk r.ks o) ∧ sameE (callIns r.ks (vis st.H)) r.outs) ∧
    CallOk P g (args.map (argP r.ks (vis st.H))) ((callIns r.ks (vis st.H)).map (inO r.ks)) r.val r.outs r.news ∧
    K (args.flatMap (footP r.ks (vis st.H)) ++ r.ks, (r.ks.filter fun k => !([] : List Nat).contains k) ++ (List.range r.news.length).map (key (d.getD 0 + 1000))) (st.put d (renP (back r.ks (d.getD 0 + 1000)) r.val) (callBack r.ks (d.getD 0 + 1000) r.outs ++ r.news.zipIdx.map fun (o, j) => (key (d.getD 0 + 1000) j, some (renO (back r.ks (d.getD 0 + 1000)) o))))

/-- A call: it has a result by some contract, and it goes on. -/
structure CS (P : Program) (g : Nat) (args : List PV) (d : Option Nat) (st : St) (K : List Nat × List Nat → St → Prop) : Prop where
  out : CS0 P g args d st K

def fin (x : Option (Prop × PV × List (Nat × Option AObj))) (d : Option Nat) (st : St) (K : St → Prop) : Prop := match x with
  | some (c, v, Δ) => c ∧ K (st.put d v Δ)
  | none => False

def opS (P : Program) (op : AOp) (d : Option Nat) (st : St) (K : St → Prop) : Prop := match op with
  | .call f xs => match f.ev st.T with
    | .l (.clos g cs) => CS P g (callArgs st.T xs cs) d st fun _ s => K s
    | _ => False
  | op => fin (sem P ⟨[], .tup [], [], [], []⟩ op st.T (vis st.H) (fre st.H) (d.getD 0 + 1000)) d st K

def RS (P : Program) : List AOper → St → (St → Prop) → Prop
  | [], st, K => K st
  | o :: l, st, K => gdS (gd o.guard st.T) (opS P o.op o.dst st fun s => RS P l s K) (RS P l (st.put o.dst (.tup []) []) K)

theorem opS_step {P : Program} {o : AOper} {st : St} {K : St → Prop} (hg : gd o.guard st.T = some true) (h : opS P o.op o.dst st K) : ∃ r F st', AStep P r F o st st' ∧ K st' := by
  obtain ⟨d, op, g⟩ := o
  have other : fin (sem P ⟨[], .tup [], [], [], []⟩ op st.T (vis st.H) (fre st.H) (d.getD 0 + 1000)) d st K → ∃ r F st', AStep P r F ⟨d, op, g⟩ st st' ∧ K st' := by
    intro h
    unfold fin at h
    split at h
    · rename_i c v Δ hs
      exact ⟨_, _, _, ⟨v, Δ, .inl ⟨hg, c, hs, h.1, rfl⟩, rfl⟩, h.2⟩
    · exact h.elim
  unfold opS at h
  split at h
  · rename_i f xs heq
    cases heq
    split at h
    · rename_i g' cs hf
      obtain ⟨r, h1, h2, h3, h4, h5, h6⟩ := h.out
      have key : ∃ c v Δ, sem P { r with same := [] } (.call f xs) st.T (vis st.H) (fre st.H) (d.getD 0 + 1000) = some (c, v, Δ) ∧ c ∧ K (st.put d v Δ) := by
        simp only [sem, hf]
        rw [if_pos ⟨h1, h2⟩]
        refine ⟨_, _, _, rfl, ⟨⟨h3, h4, h5⟩, ?_⟩, ?_⟩
        · intro x _ hx; simp at hx
        · have e : ((callBack r.ks (d.getD 0 + 1000) r.outs).filter fun x => !([] : List Nat).contains x.1) = callBack r.ks (d.getD 0 + 1000) r.outs := List.filter_eq_self.mpr (by simp)
          rw [e]
          exact h6
      obtain ⟨c, v, Δ, k1, k2, k3⟩ := key
      exact ⟨_, _, _, ⟨v, Δ, .inl ⟨hg, c, k1, k2, rfl⟩, rfl⟩, k3⟩
    · exact h.elim
  · exact other h

theorem RW_of_RS {P : Program} {K : St → Prop} : ∀ (l : List AOper) (acc : List (List Nat × List Nat)) (st : St), RS P l st K → RW P [] l acc st K
  | [], _, _, h => h
  | o :: l, acc, st, h => by
    unfold RS gdS at h
    split at h
    · rename_i hg
      obtain ⟨r, F, st', hs, hk⟩ := opS_step hg h
      exact ⟨r, F, st', hs, by simp, RW_of_RS l _ st' hk⟩
    · rename_i hg
      have hst : AStep P ⟨[], .tup [], [], [], []⟩ ([], []) o st (st.put o.dst (.tup []) []) := ⟨.tup [], [], Or.inr ⟨hg, rfl, rfl, rfl⟩, rfl⟩
      exact ⟨_, _, _, hst, by simp, RW_of_RS l _ _ h⟩
    · exact h.elim

/-- The walk over a region that may be taken in more than one order: with what each operation touches. -/
def opU (P : Program) (op : AOp) (d : Option Nat) (st : St) (K : List Nat × List Nat → St → Prop) : Prop := match op with
  | .call f xs => match f.ev st.T with
    | .l (.clos g cs) => CS P g (callArgs st.T xs cs) d st K
    | _ => False
  | op => fin (sem P ⟨[], .tup [], [], [], []⟩ op st.T (vis st.H) (fre st.H) (d.getD 0 + 1000)) d st (K (foot ⟨[], .tup [], [], [], []⟩ op st.T (vis st.H) (d.getD 0 + 1000)))

def notCall : AOp → Bool
  | .call _ _ => false
  | _ => true

def RSu (P : Program) : List (List Nat) → List AOper → List (List Nat × List Nat) → St → (St → Prop) → Prop
  | _, [], _, st, K => K st
  | un, o :: l, acc, st, K => gdS (gd o.guard st.T)
      (opU P o.op o.dst st fun F s => (∀ i ∈ un.headD [], footsApart (acc.getD i ([], [])) F = true) ∧ RSu P un.tail l (acc ++ [F]) s K)
      ((∀ i ∈ un.headD [], footsApart (acc.getD i ([], [])) ([], []) = true) ∧ RSu P un.tail l (acc ++ [([], [])]) (st.put o.dst (.tup []) []) K)

theorem RW_of_RSu {P : Program} {K : St → Prop} {un0 : List (List Nat)} : ∀ (un : List (List Nat)) (l : List AOper) (acc : List (List Nat × List Nat)) (st : St), (∀ j, un.getD j [] = un0.getD (acc.length + j) []) → RSu P un l acc st K → RW P un0 l acc st K
  | _, [], _, _, _, h => h
  | un, o :: l, acc, st, hu, h => by
    have h0 : un0.getD acc.length [] = un.headD [] := by
      have := hu 0
      rw [Nat.add_zero] at this
      rw [← this]
      cases un <;> rfl
    have ht : ∀ (F : List Nat × List Nat) j, un.tail.getD j [] = un0.getD ((acc ++ [F]).length + j) [] := by
      intro F j
      have := hu (j + 1)
      simp only [List.length_append, List.length_cons, List.length_nil]
      rw [show acc.length + (0 + 1) + j = acc.length + (j + 1) by omega, ← this]
      cases un <;> simp
    unfold RSu gdS at h
    split at h
    · rename_i hg
      have step : ∃ r F s', AStep P r F o st s' ∧ (∀ i ∈ un.headD [], footsApart (acc.getD i ([], [])) F = true) ∧ RSu P un.tail l (acc ++ [F]) s' K := by
        obtain ⟨d, op, g⟩ := o
        have other : fin (sem P ⟨[], .tup [], [], [], []⟩ op st.T (vis st.H) (fre st.H) (d.getD 0 + 1000)) d st (fun s => (∀ i ∈ un.headD [], footsApart (acc.getD i ([], [])) (foot ⟨[], .tup [], [], [], []⟩ op st.T (vis st.H) (d.getD 0 + 1000)) = true) ∧ RSu P un.tail l (acc ++ [foot ⟨[], .tup [], [], [], []⟩ op st.T (vis st.H) (d.getD 0 + 1000)]) s K) →
            ∃ r F s', AStep P r F ⟨d, op, g⟩ st s' ∧ (∀ i ∈ un.headD [], footsApart (acc.getD i ([], [])) F = true) ∧ RSu P un.tail l (acc ++ [F]) s' K := by
          intro h
          unfold fin at h
          split at h
          · rename_i c v Δ hs
            exact ⟨_, _, _, ⟨v, Δ, .inl ⟨hg, c, hs, h.1, rfl⟩, rfl⟩, h.2.1, h.2.2⟩
          · exact h.elim
        unfold opU at h
        cases op
        case call f xs =>
          simp only at h
          split at h
          · rename_i g' cs hf
            obtain ⟨r, h1, h2, h3, h4, h5, h6⟩ := h.out
            have key : ∃ c v Δ, sem P { r with same := [] } (.call f xs) st.T (vis st.H) (fre st.H) (d.getD 0 + 1000) = some (c, v, Δ) ∧ c ∧
                ((∀ i ∈ un.headD [], footsApart (acc.getD i ([], [])) (foot { r with same := [] } (.call f xs) st.T (vis st.H) (d.getD 0 + 1000)) = true) ∧ RSu P un.tail l (acc ++ [foot { r with same := [] } (.call f xs) st.T (vis st.H) (d.getD 0 + 1000)]) (st.put d v Δ) K) := by
              simp only [sem, hf]
              rw [if_pos ⟨h1, h2⟩]
              refine ⟨_, _, _, rfl, ⟨⟨h3, h4, h5⟩, ?_⟩, ?_⟩
              · intro x _ hx; simp at hx
              · have e : ((callBack r.ks (d.getD 0 + 1000) r.outs).filter fun x => !([] : List Nat).contains x.1) = callBack r.ks (d.getD 0 + 1000) r.outs := List.filter_eq_self.mpr (by simp)
                rw [e]
                simp only [foot, hf]
                exact h6
            obtain ⟨c, v, Δ, k1, k2, k3⟩ := key
            exact ⟨_, _, _, ⟨v, Δ, .inl ⟨hg, c, k1, k2, rfl⟩, rfl⟩, k3⟩
          · exact h.elim
        all_goals exact other h
      obtain ⟨r, F, s', hs, ha, hr⟩ := step
      exact ⟨r, F, s', hs, by rw [h0]; exact ha, RW_of_RSu un.tail l _ s' (ht F) hr⟩
    · rename_i hg
      have hst : AStep P ⟨[], .tup [], [], [], []⟩ ([], []) o st (st.put o.dst (.tup []) []) := ⟨.tup [], [], Or.inr ⟨hg, rfl, rfl, rfl⟩, rfl⟩
      exact ⟨_, _, _, hst, by rw [h0]; exact h.1, RW_of_RSu un.tail l _ _ (ht _) h.2⟩
    · exact h.elim

/-- The walk over code. Loops stand still. -/
def wps (P : Program) (N : Nat) : ACode → St → (AX → St → Prop) → Prop
  | .skip, st, Q => Q .n st
  | .reg l [], st, Q => RS P l st (Q .n)
  | .reg l un, st, Q => RSu P un l [] st (Q .n)
  | .seq a b, st, Q => wps P N a st (thenX (fun s => wps P N b s Q) Q)
  | .cond c a b, st, Q => gdS (boolOf (c.ev st.T)) (wps P N a st Q) (wps P N b st Q)
  | .block id a, st, Q => wps P N a st (inX id Q)
  | .loop a, st, Q => AW P N (.loop a) st Q
  | .exit id, st, Q => Q (.x id) st
  | .ret, st, Q => Q .r st

theorem AW_of_wps {P : Program} {N : Nat} : ∀ (ac : ACode) (st : St) (Q : AX → St → Prop), wps P N ac st Q → AW P N ac st Q
  | .skip, _, _, h => AW.skip h
  | .reg l [], _, _, h => AW.reg (RW_of_RS l [] _ h)
  | .reg l (u :: un), _, _, h => AW.reg (RW_of_RSu (u :: un) l [] _ (fun j => by simp) h)
  | .seq a b, st, Q, h => by
    refine AW.seq ((AW_of_wps a st _ h).mono ?_)
    intro x s hx
    cases x with
    | n => exact AW_of_wps b s Q hx
    | x id => exact hx
    | r => exact hx
  | .cond c a b, st, Q, h => by
    unfold wps gdS at h
    have hb : ∀ t, boolOf (c.ev st.T) = some t → c.ev st.T = .l (.v (.bool t)) := by
      intro t ht
      unfold boolOf at ht
      split at ht
      · rename_i hx; cases ht; exact hx
      · cases ht
    split at h
    · rename_i hx; exact AW.cond (hb _ hx) (fun _ => AW_of_wps a st Q h) (fun e => by cases e)
    · rename_i hx; exact AW.cond (hb _ hx) (fun e => by cases e) (fun _ => AW_of_wps b st Q h)
    · exact h.elim
  | .block id a, st, Q, h => AW.block (AW_of_wps a st _ h)
  | .loop a, _, _, h => h
  | .exit id, _, _, h => AW.exit h
  | .ret, _, _, h => AW.ret h

section
variable {P : Program} {N : Nat} {T : Nat → PV} {H : Nat → Option AObj} {K : St → Prop} {Q : AX → St → Prop}

/-- Is it a truth value, and which? -/
def isB : PV → Bool
  | .l (.v (.bool _)) => true
  | _ => false
def bo : PV → Bool
  | .l (.v (.bool x)) => x
  | _ => false
theorem isB_b (x : Bool) : isB (.l (.v (.bool x))) = true := rfl
theorem isB_u : isB (.tup []) = false := rfl
theorem bo_b (x : Bool) : bo (.l (.v (.bool x))) = x := rfl

theorem isB_some {p : PV} (h : isB p = true) : p = .l (.v (.bool (bo p))) := by
  unfold isB at h
  split at h
  · rfl
  · cases h

theorem upd_id (T : Nat → PV) (t : Nat) {v : PV} (h : T t = v) : upd T t v = T := by
  funext j; unfold upd; split
  · rename_i e; rw [e, h]
  · rfl

/- The steps, on states that are written out. -/
theorem RS_nil : RS P [] ⟨T, H⟩ K = K ⟨T, H⟩ := rfl
theorem RS_go {d : Option Nat} {op : AOp} {l : List AOper} : RS P (⟨d, op, none⟩ :: l) ⟨T, H⟩ K = opS P op d ⟨T, H⟩ fun s => RS P l s K := rfl
theorem RS_gd {d : Option Nat} {op : AOp} {l : List AOper} {t : Nat} {b : Bool} : RS P (⟨d, op, some (t, b)⟩ :: l) ⟨T, H⟩ K =
    if isB (T t) = true then
      if bo (T t) = b then opS P op d ⟨upd T t (.l (.v (.bool b))), H⟩ fun s => RS P l s K else RS P l ((⟨upd T t (.l (.v (.bool (!b)))), H⟩ : St).put d (.tup []) []) K
    else T t = .tup [] ∧ RS P l ((⟨T, H⟩ : St).put d (.tup []) []) K := by
  by_cases hb : isB (T t) = true
  · rw [if_pos hb]
    have hb' := isB_some hb
    generalize bo (T t) = x at hb'
    simp only [RS, gd, hb']
    split
    · rename_i e
      subst e
      rw [upd_id T t hb']
      simp [gdS]
    · rename_i e
      have : x = !b := by cases x <;> cases b <;> simp_all
      subst this
      rw [upd_id T t hb']
      cases b <;> rfl
  · rw [if_neg hb]
    simp only [RS, gd]
    cases hT : T t with
    | l x => cases x with
      | v y => cases y with
        | bool z => rw [hT] at hb; exact absurd rfl hb
        | _ => simp [gdS]
      | _ => simp [gdS]
    | agg cs => simp [gdS]
    | tup ps => cases ps with
      | nil => simp [gdS]
      | cons _ _ => simp [gdS]
theorem put_some {d : Nat} {v : PV} {Δ : List (Nat × Option AObj)} : (⟨T, H⟩ : St).put (some d) v Δ = ⟨upd T d v, updL H Δ⟩ := rfl
theorem put_none {v : PV} {Δ : List (Nat × Option AObj)} : (⟨T, H⟩ : St).put none v Δ = ⟨T, updL H Δ⟩ := rfl
theorem updL_nil {α : Type} (f : Nat → α) : updL f [] = f := rfl
theorem updL_cons {α : Type} (f : Nat → α) (k : Nat) (v : α) (l : List (Nat × α)) : updL f ((k, v) :: l) = updL (upd f k v) l := rfl
theorem fin_some {c : Prop} {v : PV} {Δ : List (Nat × Option AObj)} {d : Option Nat} {st : St} : fin (some (c, v, Δ)) d st K = (c ∧ K (st.put d v Δ)) := rfl
theorem upd_same {α : Type} (f : Nat → α) (k : Nat) (v : α) : upd f k v k = v := by simp [upd]
theorem upd_ne {α : Type} (f : Nat → α) {k j : Nat} (v : α) (h : j ≠ k) : upd f k v j = f j := by simp [upd, h]
theorem vis_none (j : Nat) : vis (fun _ => none) j = none := rfl
theorem fre_none (j : Nat) : fre (fun _ => none) j = decide (1000 ≤ j) := by simp [fre]
theorem vis_same (k : Nat) (o : AObj) : vis (upd H k (some o)) k = if o.m = 3 then none else some o := by simp [vis, upd]
theorem vis_ne {k j : Nat} (o : Option AObj) (h : j ≠ k) : vis (upd H k o) j = vis H j := by simp [vis, upd, h]
theorem fre_same (k : Nat) (o : AObj) : fre (upd H k (some o)) k = false := by simp [fre, upd]
theorem fre_ne {k j : Nat} (o : Option AObj) (h : j ≠ k) : fre (upd H k o) j = fre H j := by simp [fre, upd, h]
theorem ev_t (n : Nat) : (Opd.t n).ev T = T n := rfl
theorem ev_c (p : PV) : (Opd.c p).ev T = p := rfl
theorem wps_skip : wps P N .skip ⟨T, H⟩ Q = Q .n ⟨T, H⟩ := rfl
theorem wps_reg {l : List AOper} : wps P N (.reg l []) ⟨T, H⟩ Q = RS P l ⟨T, H⟩ (Q .n) := rfl
theorem wps_reg' {l : List AOper} {u : List Nat} {un : List (List Nat)} : wps P N (.reg l (u :: un)) ⟨T, H⟩ Q = RSu P (u :: un) l [] ⟨T, H⟩ (Q .n) := rfl
theorem RSu_nil {un : List (List Nat)} {acc : List (List Nat × List Nat)} : RSu P un [] acc ⟨T, H⟩ K = K ⟨T, H⟩ := by cases un <;> rfl
theorem RSu_go {un : List (List Nat)} {u : List Nat} {acc : List (List Nat × List Nat)} {d : Option Nat} {op : AOp} {l : List AOper} : RSu P (u :: un) (⟨d, op, none⟩ :: l) acc ⟨T, H⟩ K =
    (opU P op d ⟨T, H⟩ fun F s => (∀ i ∈ u, footsApart (acc.getD i ([], [])) F = true) ∧ RSu P un l (acc ++ [F]) s K) := rfl
theorem wps_seq {a b : ACode} : wps P N (.seq a b) ⟨T, H⟩ Q = wps P N a ⟨T, H⟩ (thenX (fun s => wps P N b s Q) Q) := rfl
theorem wps_cond {c : Opd} {a b : ACode} : wps P N (.cond c a b) ⟨T, H⟩ Q = (isB (c.ev T) = true ∧ if bo (c.ev T) = true then wps P N a ⟨T, H⟩ Q else wps P N b ⟨T, H⟩ Q) := by
  simp only [wps]
  cases hb : c.ev T with
  | l x => cases x with
    | v y => cases y with
      | bool z => cases z <;> simp [gdS, boolOf, isB, bo]
      | _ => simp [gdS, boolOf, isB]
    | _ => simp [gdS, boolOf, isB]
  | agg cs => simp [gdS, boolOf, isB]
  | tup ps => simp [gdS, boolOf, isB]
theorem wps_block {id : Nat} {a : ACode} : wps P N (.block id a) ⟨T, H⟩ Q = wps P N a ⟨T, H⟩ (inX id Q) := rfl
theorem wps_loop {a : ACode} : wps P N (.loop a) ⟨T, H⟩ Q = AW P N (.loop a) ⟨T, H⟩ Q := rfl
theorem wps_exit {id : Nat} : wps P N (.exit id) ⟨T, H⟩ Q = Q (.x id) ⟨T, H⟩ := rfl
theorem wps_ret : wps P N .ret ⟨T, H⟩ Q = Q .r ⟨T, H⟩ := rfl
theorem thenX_n {J : St → Prop} {s : St} : thenX J Q .n s = J s := rfl
theorem thenX_x {J : St → Prop} {s : St} {id : Nat} : thenX J Q (.x id) s = Q (.x id) s := rfl
theorem thenX_r {J : St → Prop} {s : St} : thenX J Q .r s = Q .r s := rfl
theorem inX_n {s : St} {id : Nat} : inX id Q .n s = Q .n s := rfl
theorem inX_r {s : St} {id : Nat} : inX id Q .r s = Q .r s := rfl
theorem inX_x {s : St} {id id' : Nat} : inX id Q (.x id') s = if id' = id then Q .n s else Q (.x id') s := rfl
end

/-- The slots at the start. -/
def mkT : Nat → List PV → Nat → PV
  | _, [] => fun _ => .tup []
  | i, a :: l => upd (mkT (i + 1) l) i a

theorem mkT_at : ∀ (l : List PV) (i t : Nat), mkT i l t = if i ≤ t then (l[t - i]?).getD (.tup []) else .tup []
  | [], i, t => by simp [mkT]
  | a :: l, i, t => by
    simp only [mkT, upd]
    by_cases h : t = i
    · subst h; simp
    · rw [if_neg h, mkT_at l (i + 1) t]
      by_cases h2 : i ≤ t
      · rw [if_pos h2, if_pos (by omega), show t - i = (t - (i + 1)) + 1 by omega, List.getElem?_cons_succ]
      · rw [if_neg h2, if_neg (by omega)]

theorem argT_mkT (args : List PV) : argT args = mkT 0 args := by
  funext t
  rw [mkT_at]
  simp [argT]

def pureP : PV → Bool
  | .l x => x.pure
  | .agg cs => cs.all L.pure
  | .tup _ => false

theorem WP_pure {st : St} {g : Nat → Nat} {fz dom : Nat → Prop} {p : PV} (h : pureP p = true) : WP st g fz dom p p := by
  cases p with
  | l x => exact .l (.same h)
  | agg cs =>
    refine .agg ?_
    simp only [pureP, List.all_eq_true] at h
    induction cs with
    | nil => exact .nil
    | cons c cs ih => exact .cons (.same (h c (by simp))) (ih fun x hx => h x (by simp [hx]))
  | tup _ => simp [pureP] at h

theorem pure_notTup {p : PV} (h : pureP p = true) : notTup p = true := by
  cases p <;> first | rfl | simp [pureP] at h

theorem WP_nth {st : St} {g : Nat → Nat} {fz dom : Nat → Prop} {ps : List PV} (h : ps.all pureP = true) (t : Nat) : WP st g fz dom (nth ps t) (nth ps t) := by
  unfold nth
  cases hp : ps[t]? with
  | none => exact .bad _
  | some p => exact WP_pure (List.all_eq_true.mp h p (List.mem_of_getElem? hp))

theorem finOk_pure {s : St} {rs : List RV} {ps : List PV} (h : rets s rs ps) (hp : ps.all pureP = true) (hb : HBP (retV ps)) : FinOk s rs 0 (retV ps) [] [] := by
  refine ⟨ps, ps, id, fun _ => False, h, rfl, ⟨fun t => WP_nth hp t, ?_, ?_⟩, by omega, rfl, ?_, hb, ?_⟩
  · intro k o' h
    simp [outH] at h
  · intro k k' h
    simp [outH] at h
  · exact List.all_eq_true.mpr fun p h => pure_notTup (List.all_eq_true.mp hp p h)
  · intro k o hk
    simp [outH] at hk

theorem inK64 {n : Int} : inK .i64 n = (-9223372036854775808 ≤ n ∧ n ≤ 9223372036854775807) := rfl

theorem bEq {a b : Bool} (h : a = true ↔ b = true) : PV.l (.v (.bool a)) = PV.l (.v (.bool b)) := by rw [Bool.eq_iff_iff.mpr h]

/-- It returns, and the results are these. -/
def retQ (rs : List RV) (ps : List PV) : AX → St → Prop
  | .x _, _ => False
  | _, s => rets s rs ps

section
variable {rs : List RV} {ps : List PV} {T : Nat → PV} {H : Nat → Option AObj}
theorem retQ_r : retQ rs ps .r ⟨T, H⟩ = rets ⟨T, H⟩ rs ps := rfl
theorem retQ_n : retQ rs ps .n ⟨T, H⟩ = rets ⟨T, H⟩ rs ps := rfl
theorem rets_nil : rets ⟨T, H⟩ [] [] = True := rfl
theorem rets_t {n : Nat} {p : PV} : rets ⟨T, H⟩ (.t n :: rs) (p :: ps) = (T n = p ∧ rets ⟨T, H⟩ rs ps) := by simp only [rets, RV.val, Option.some.injEq]
theorem rets_c {a n : Nat} {g : Bool} {p : PV} : rets ⟨T, H⟩ (.c a n g :: rs) (p :: ps) = (cellV n g (vis H) (T a) = some p ∧ rets ⟨T, H⟩ rs ps) := rfl
end

/-- A function whose results are of no object of its own. -/
theorem callOk_pure {P : Program} {f : FuncId} {fn : Func} {ac : ACode} {args : List PV} {rs : List RV} {ps : List PV}
    (hm : P.follows .mixedOrders = true) (hf : P.funcs[f]? = some fn) (hname : (fn.name == "runtime.NumGoroutine") = false) (hc : fn.body.bind (comp P fn.ntmps) = some ac)
    (hargs : args.length ≤ fn.ntmps) (hrs : fn.results.toList.mapM (rvOf P) = some rs) (hp : ps.all pureP = true) (hb : HBP (retV ps))
    (h : wps P fn.ntmps ac ⟨mkT 0 args, fun _ => none⟩ (retQ rs ps)) : CallOk P f args [] (retV ps) [] [] := by
  obtain ⟨c, hb', hc'⟩ := Option.bind_eq_some_iff.mp hc
  refine callOk_of hm hf hname hb' hc' hargs (by simp) hrs ?_
  have e : (fun k : Nat => ([] : List AObj)[k]?) = fun _ => none := by funext k; simp
  rw [argT_mkT, e]
  refine (AW_of_wps _ _ _ h).mono ?_
  intro x s hx
  cases x with
  | x id => exact hx.elim
  | n => exact ⟨fun id e => AX.noConfusion e, finOk_pure hx hp hb⟩
  | r => exact ⟨fun id e => AX.noConfusion e, finOk_pure hx hp hb⟩

/-- The same with one result. -/
theorem callOk_pure1 {P : Program} {f : FuncId} {fn : Func} {ac : ACode} {args : List PV} {r : RV} {p : PV}
    (hm : P.follows .mixedOrders = true) (hf : P.funcs[f]? = some fn) (hname : (fn.name == "runtime.NumGoroutine") = false) (hc : fn.body.bind (comp P fn.ntmps) = some ac)
    (hargs : args.length ≤ fn.ntmps) (hrs : fn.results.toList.mapM (rvOf P) = some [r]) (hp : pureP p = true) (hb : HBP p)
    (h : wps P fn.ntmps ac ⟨mkT 0 args, fun _ => none⟩ (retQ [r] [p])) : CallOk P f args [] p [] [] :=
  callOk_pure (ps := [p]) hm hf hname hc hargs hrs (by simp [hp]) hb h

/-- A slice that is handed over is no longer than Go lets slices be. -/
theorem CallOk.short {P : Program} {f : FuncId} {args : List PV} {ins : List AObj} {val : PV} {outs : List (Option AObj)} {news : List AObj} (i : Nat) {q : Bool} {xs : List (List L)} (hc : Callable P f) (hi : args[i]? = some (.l (.vs q xs)))
    (k : xs.length ≤ maxLen → CallOk P f args ins val outs news) : CallOk P f args ins val outs news := by
  refine ⟨hc, fun w A σ cargs h1 h2 h3 hF => ?_⟩
  obtain ⟨y, _, hy⟩ := hF.get hi
  have hl : xs.length ≤ maxLen := by
    replace hy : KV _ (.vs q xs) y := hy
    cases hy with
    | vs a e f hc hm had he hr hkk => exact Nat.le_trans hc hm
  exact (k hl).2 w A σ cargs h1 h2 h3 hF

theorem AW.walk {P : Program} {N : Nat} {a b : ACode} {st : St} {Q : AX → St → Prop} (h : wps P N a st (thenX (fun s => AW P N b s Q) Q)) : AW P N (.seq a b) st Q := AW.seq (AW_of_wps _ _ _ h)

theorem AW.cut {P : Program} {N : Nat} {a b : ACode} {st : St} {Q : AX → St → Prop} (J : St → Prop) (h : wps P N a st (thenX (Lo J) Q)) (h2 : ∀ s, J s → AW P N b s Q) : AW P N (.seq a b) st Q := AW.seq' J (AW_of_wps _ _ _ h) h2

/-- The same, with the judgement. -/
theorem callOk_pureA {P : Program} {f : FuncId} {fn : Func} {ac : ACode} {args : List PV} {r : RV} {p : PV}
    (hm : P.follows .mixedOrders = true) (hf : P.funcs[f]? = some fn) (hname : (fn.name == "runtime.NumGoroutine") = false) (hc : fn.body.bind (comp P fn.ntmps) = some ac)
    (hargs : args.length ≤ fn.ntmps) (hrs : fn.results.toList.mapM (rvOf P) = some [r]) (hp : pureP p = true) (hb : HBP p)
    (h : AW P fn.ntmps ac ⟨mkT 0 args, fun _ => none⟩ (retQ [r] [p])) : CallOk P f args [] p [] [] := by
  obtain ⟨c, hb', hc'⟩ := Option.bind_eq_some_iff.mp hc
  refine callOk_of hm hf hname hb' hc' hargs (by simp) hrs ?_
  have e : (fun k : Nat => ([] : List AObj)[k]?) = fun _ => none := by funext k; simp
  rw [argT_mkT, e]
  refine h.mono ?_
  intro x s hx
  cases x with
  | x id => exact hx.elim
  | n => exact ⟨fun id e => AX.noConfusion e, finOk_pure (ps := [p]) hx (by simp [hp]) hb⟩
  | r => exact ⟨fun id e => AX.noConfusion e, finOk_pure (ps := [p]) hx (by simp [hp]) hb⟩

theorem idx_nil (k : Nat) : idx [] k = none := rfl

theorem renL_pure {r : Nat → Nat} {x : L} (h : x.pure = true) : renL r x = x := by
  cases x <;> first | rfl | simp [L.pure] at h

theorem renP_pure {r : Nat → Nat} {p : PV} (h : pureP p = true) : renP r p = p := by
  cases p with
  | l x => simp only [renP, renL_pure h]
  | agg cs =>
    simp only [pureP, List.all_eq_true] at h
    simp only [renP]
    rw [List.map_congr_left fun x hx => renL_pure (h x hx), List.map_id']
  | tup _ => simp [pureP] at h

theorem argL_pure {ks : List Nat} {ρ : Nat → Option AObj} {x : L} (h : x.pure = true) : argL ks ρ x = x ∧ argOk ks ρ x := by
  cases x <;> first | exact ⟨rfl, trivial⟩ | simp [L.pure] at h

theorem argP_pure {ks : List Nat} {ρ : Nat → Option AObj} {p : PV} (h : pureP p = true) : argP ks ρ p = p ∧ argPOk ks ρ p := by
  cases p with
  | l x => exact ⟨by simp only [argP, (argL_pure h).1], (argL_pure h).2⟩
  | agg cs =>
    simp only [pureP, List.all_eq_true] at h
    refine ⟨?_, fun x hx => (argL_pure (h x hx)).2⟩
    simp only [argP]
    rw [List.map_congr_left fun x hx => (argL_pure (h x hx)).1, List.map_id']
  | tup _ => simp [pureP] at h

/-- A call with plain arguments and a plain result. -/
theorem CS.plain {P : Program} {g : Nat} {args : List PV} {val : PV} {d : Option Nat} {T : Nat → PV} {H : Nat → Option AObj} {K : List Nat × List Nat → St → Prop}
    (hc : CallOk P g args [] val [] []) (ha : args.all pureP = true) (hv : pureP val = true) (hk : K (args.flatMap (footP [] (vis H)) ++ [], []) ((⟨T, H⟩ : St).put d val [])) : CS P g args d ⟨T, H⟩ K := by
  simp only [List.all_eq_true] at ha
  refine CS.mk ⟨⟨[], val, [], [], []⟩, rfl, rfl, fun p hp => (argP_pure (ha p hp)).2, ⟨.nil, by simp [callIns], trivial⟩, ?_, ?_⟩
  · rw [List.map_congr_left fun p hp => (argP_pure (ha p hp)).1, List.map_id']
    exact hc
  · simp only [renP_pure hv]
    exact hk

/-- The slots that are still looked at. -/
def mkL : List (Nat × PV) → Nat → PV
  | [] => fun _ => .l .bad
  | (k, v) :: l => upd (mkL l) k v

theorem Lo.plain {J : St → Prop} {T : Nat → PV} {H : Nat → Option AObj} (l : List (Nat × PV)) (h : ∀ p ∈ l, T p.1 = p.2) (hp : l.all (fun p => pureP p.2) = true) (hJ : J ⟨mkL l, fun _ => none⟩) : Lo J ⟨T, H⟩ := by
  refine .inr ⟨id, fun _ => False, _, ⟨⟨?_, by simp, by simp⟩, by simp⟩, hJ⟩
  clear hJ
  intro t
  simp only
  induction l with
  | nil => exact .bad _
  | cons p l ih =>
    simp only [List.all_cons, Bool.and_eq_true] at hp
    simp only [mkL, upd]
    split
    · rename_i e
      subst e
      rw [h p (by simp)]
      exact WP_pure hp.1
    · exact ih (fun q hq => h q (by simp [hq])) hp.2

/-- A slice that is read is no longer than Go lets slices be. -/
theorem AW.short {P : Program} {N : Nat} {ac : ACode} {st : St} {Q : AX → St → Prop} {t : Nat} {q : Bool} {xs : List (List L)} (hT : st.T t = .l (.vs q xs)) (h : xs.length ≤ maxLen → AW P N ac st Q) : AW P N ac st Q := by
  intro hm c base G A w0 σ a w hc R
  have hk := R.tmp t
  rw [hT] at hk
  have hl : xs.length ≤ maxLen := by
    replace hk : KV _ (.vs q xs) (a.tmps.getD t undef) := hk
    generalize a.tmps.getD t undef = y at hk
    cases hk with
    | vs a e f hc hm had he hr hkk => exact Nat.le_trans hc hm
  exact h hl hm c base G A w0 σ a w hc R

/-- A call that is told of own slices what it may read, with a plain result. -/
theorem CS.view {P : Program} {g : Nat} {args args' : List PV} {val : PV} {d : Option Nat} {T : Nat → PV} {H : Nat → Option AObj} {K : List Nat × List Nat → St → Prop}
    (hc : CallOk P g args' [] val [] []) (ha : ∀ p ∈ args, argPOk [] (vis H) p) (he : args.map (argP [] (vis H)) = args') (hv : pureP val = true) (hk : K (args.flatMap (footP [] (vis H)) ++ [], []) ((⟨T, H⟩ : St).put d val [])) : CS P g args d ⟨T, H⟩ K := by
  refine CS.mk ⟨⟨[], val, [], [], []⟩, rfl, rfl, ha, ⟨.nil, by simp [callIns], trivial⟩, ?_, ?_⟩
  · rw [he]; exact hc
  · simp only [renP_pure hv]
    exact hk

/-- A call that hands back a new slice. -/
theorem CS.new {P : Program} {g : Nat} {args args' : List PV} {n : Nat} {o : AObj} {d : Nat} {T : Nat → PV} {H : Nat → Option AObj} {K : List Nat × List Nat → St → Prop}
    (hc : CallOk P g args' [] (.l (.sl 0 0 n)) [] [o]) (ha : ∀ p ∈ args, argPOk [] (vis H) p) (he : args.map (argP [] (vis H)) = args') (hpl : o.pl = true) (hf : fre H (d + 1000) = true)
    (hk : K (args.flatMap (footP [] (vis H)) ++ [], [d + 1000]) ⟨upd T d (.l (.sl (d + 1000) 0 n)), upd H (d + 1000) (some o)⟩) : CS P g args (some d) ⟨T, H⟩ K := by
  refine CS.mk ⟨⟨[], .l (.sl 0 0 n), [], [o], []⟩, rfl, ?_, ha, ⟨.nil, by simp [callIns], trivial⟩, ?_, ?_⟩
  · simpa [key] using hf
  · rw [he]; exact hc
  · have e : renO (back [] (d + 1000)) o = o := by simp [renO, hpl]
    have e2 : (⟨T, H⟩ : St).put (some d) (renP (back [] (d + 1000)) (.l (.sl 0 0 n))) (callBack [] (d + 1000) [] ++ [o].zipIdx.map fun (o, j) => (key (d + 1000) j, some (renO (back [] (d + 1000)) o))) =
        ⟨upd T d (.l (.sl (d + 1000) 0 n)), upd H (d + 1000) (some (renO (back [] (d + 1000)) o))⟩ := rfl
    show K (args.flatMap (footP [] (vis H)) ++ [], [d + 1000 + 1000 * 0]) ((⟨T, H⟩ : St).put (some d) (renP (back [] (d + 1000)) (.l (.sl 0 0 n))) (callBack [] (d + 1000) [] ++ [o].zipIdx.map fun (o, j) => (key (d + 1000) j, some (renO (back [] (d + 1000)) o))))
    rw [e2, e]
    exact hk

/-- The objects that are kept. -/
def mkH : List (Nat × AObj) → Nat → Option AObj
  | [] => fun _ => none
  | (k, o) :: l => upd (mkH l) k (some o)

def gOf : List (Nat × Nat × AObj) → Nat → Nat
  | [] => id
  | (k, k0, _) :: l => upd (gOf l) k k0

def okL (ks : List Nat) : L → Bool
  | .sl k _ _ => ks.contains k
  | .ptr k _ _ => ks.contains k
  | x => x.pure

def okP (ks : List Nat) : PV → Bool
  | .l x => okL ks x
  | .agg cs => cs.all (okL ks)
  | .tup _ => false

theorem mkH_at {os : List (Nat × Nat × AObj)} {k : Nat} {o : AObj} (h : mkH (os.map fun x => (x.1, x.2.2)) k = some o) : ∃ k0, (k, k0, o) ∈ os ∧ gOf os k = k0 := by
  induction os with
  | nil => cases h
  | cons x os ih =>
    obtain ⟨k1, k0, o1⟩ := x
    simp only [List.map_cons, mkH, upd, gOf] at h ⊢
    split at h
    · rename_i e
      cases h
      subst e
      exact ⟨k0, by simp, by simp⟩
    · rename_i e
      obtain ⟨k2, h1, h2⟩ := ih h
      exact ⟨k2, by simp [h1], by rw [if_neg e]; exact h2⟩

theorem mkH_some {os : List (Nat × Nat × AObj)} {k : Nat} (h : k ∈ os.map (·.1)) : (mkH (os.map fun x => (x.1, x.2.2)) k).isSome = true := by
  induction os with
  | nil => simp at h
  | cons x os ih =>
    obtain ⟨k1, k0, o1⟩ := x
    simp only [List.map_cons, mkH, upd]
    split
    · rfl
    · rename_i e
      exact ih (by simpa [e] using h)

theorem WL_ok {st : St} {fz : Nat → Prop} {os : List (Nat × Nat × AObj)} {x : L} (h : okL (os.map (·.1)) x = true) : WL st (gOf os) fz (fun k => (mkH (os.map fun x => (x.1, x.2.2)) k).isSome = true) (renL (gOf os) x) x := by
  cases x with
  | sl k off len => exact .sl (mkH_some (by simpa [okL] using h))
  | ptr k e o => exact .ptr (mkH_some (by simpa [okL] using h))
  | v x => exact .same h
  | vs q xs => exact .same h
  | emp => exact .same h
  | pv q cs => simp [okL, L.pure] at h
  | clos f ks => simp [okL, L.pure] at h
  | bad => simp [okL, L.pure] at h

theorem WP_ok {st : St} {fz : Nat → Prop} {os : List (Nat × Nat × AObj)} {p : PV} (h : okP (os.map (·.1)) p = true) : WP st (gOf os) fz (fun k => (mkH (os.map fun x => (x.1, x.2.2)) k).isSome = true) (renP (gOf os) p) p := by
  cases p with
  | l x => exact .l (WL_ok h)
  | agg cs =>
    refine .agg ?_
    simp only [okP, List.all_eq_true] at h
    induction cs with
    | nil => exact .nil
    | cons c cs ih => exact .cons (WL_ok (h c (by simp))) (ih fun x hx => h x (by simp [hx]))
  | tup _ => simp [okP] at h

theorem Lo.own {J : St → Prop} {T : Nat → PV} {H : Nat → Option AObj} (l : List (Nat × PV)) (os : List (Nat × Nat × AObj)) (hT : ∀ p ∈ l, T p.1 = renP (gOf os) p.2) (hp : l.all (fun p => okP (os.map (·.1)) p.2) = true)
    (hH : ∀ x ∈ os, ∃ m, m ≤ 1 ∧ H x.2.1 = some { x.2.2 with m := m }) (hO : os.all (fun x => x.2.2.m == 0 && x.2.2.pl && (decide (1000 ≤ x.1) || x.2.1 == x.1)) = true)
    (hk : (os.map (·.1)).Nodup) (hk0 : (os.map (·.2.1)).Nodup) (hJ : J ⟨mkL l, mkH (os.map fun x => (x.1, x.2.2))⟩) : Lo J ⟨T, H⟩ := by
  simp only [List.all_eq_true, Bool.and_eq_true, Bool.or_eq_true, beq_iff_eq, decide_eq_true_eq] at hO
  refine .inr ⟨gOf os, fun _ => False, _, ⟨⟨?_, ?_, ?_⟩, ?_⟩, hJ⟩
  · clear hJ
    intro t
    simp only
    induction l with
    | nil => exact .bad _
    | cons p l ih =>
      simp only [List.all_cons, Bool.and_eq_true] at hp
      simp only [mkL, upd]
      split
      · rename_i e
        subst e
        rw [hT p (by simp)]
        exact WP_ok hp.1
      · exact ih (fun q hq => hT q (by simp [hq])) hp.2
  · intro k o' h
    obtain ⟨k0, hm, hg⟩ := mkH_at h
    obtain ⟨m, h1, h2⟩ := hH _ hm
    have ho := hO _ hm
    rw [hg]
    exact ⟨_, h2, id, h1, ho.1.1, rfl, .inl ⟨ho.1.2, rfl⟩⟩
  · intro k k' h h' e
    obtain ⟨o, ho⟩ := Option.isSome_iff_exists.mp h
    obtain ⟨o', ho'⟩ := Option.isSome_iff_exists.mp h'
    obtain ⟨k0, hm, hg⟩ := mkH_at ho
    obtain ⟨k0', hm', hg'⟩ := mkH_at ho'
    rw [hg, hg'] at e
    subst e
    obtain ⟨i, hi⟩ := List.mem_iff_getElem?.mp hm
    obtain ⟨i', hi'⟩ := List.mem_iff_getElem?.mp hm'
    have e1 : (os.map (·.2.1))[i]? = some k0 := by simp [hi]
    have e2 : (os.map (·.2.1))[i']? = some k0 := by simp [hi']
    obtain ⟨l1, g1⟩ := List.getElem?_eq_some_iff.mp e1
    obtain ⟨l2, g2⟩ := List.getElem?_eq_some_iff.mp e2
    have := (List.getElem_inj hk0).mp (g1.trans g2.symm)
    subst this
    rw [hi] at hi'
    cases hi'
    rfl
  · intro k hlt h
    obtain ⟨o, ho⟩ := Option.isSome_iff_exists.mp h
    obtain ⟨k0, hm, hg⟩ := mkH_at ho
    rw [hg]
    rcases (hO _ hm).2 with h | h
    · simp only at h; omega
    · exact h

theorem finOk_new {s : St} {r : RV} {k n m : Nat} {o : AObj} (hT : RV.val s r = some (.l (.sl k 0 n))) (hH : s.H k = some { o with m := m }) (hm : m ≤ 1) (ho : o.m = 0) (hpl : o.pl = true)
    (hb : ∀ r ∈ o.es, ∀ x ∈ r, HB x) : FinOk s [r] 0 (.l (.sl 0 0 n)) [] [o] := by
  refine ⟨[.l (.sl k 0 n)], [.l (.sl 0 0 n)], fun _ => k, fun _ => False, ⟨hT, trivial⟩, rfl, ⟨?_, ?_, ?_⟩, by omega, rfl, rfl, .sl 0 0 n, ?_⟩
  · intro t
    cases t with
    | zero => exact .l (.sl (g := fun _ => k) (k := 0) (by simp [outH]))
    | succ t => exact .bad _
  · intro j o' h
    cases j with
    | zero =>
      simp [outH] at h
      subst h
      exact ⟨_, hH, id, hm, ho, rfl, .inl ⟨hpl, rfl⟩⟩
    | succ j => simp [outH] at h
  · intro j j' h h' _
    cases j with
    | zero => cases j' with
      | zero => rfl
      | succ j' => simp [outH] at h'
    | succ j => simp [outH] at h
  · intro j o' h
    simp only [outH] at h
    cases j with
    | zero => simp at h; subst h; exact hb
    | succ j => simp at h

/-- It returns a new slice of these rows. -/
def retS (r : RV) (n : Nat) (o : AObj) : AX → St → Prop
  | .x _, _ => False
  | _, s => ∃ k m, RV.val s r = some (.l (.sl k 0 n)) ∧ s.H k = some { o with m := m } ∧ m ≤ 1

section
variable {n r : Nat} {o : AObj} {T : Nat → PV} {H : Nat → Option AObj}
theorem retS_r : retS (.t r) n o .r ⟨T, H⟩ = ∃ k m, T r = .l (.sl k 0 n) ∧ H k = some { o with m := m } ∧ m ≤ 1 := by simp only [retS, RV.val, Option.some.injEq]
theorem retS_n : retS (.t r) n o .n ⟨T, H⟩ = ∃ k m, T r = .l (.sl k 0 n) ∧ H k = some { o with m := m } ∧ m ≤ 1 := by simp only [retS, RV.val, Option.some.injEq]
end

/-- A function that hands back a new slice. -/
theorem callOk_new {P : Program} {f : FuncId} {fn : Func} {ac : ACode} {args : List PV} {r : RV} {n : Nat} {o : AObj}
    (hm : P.follows .mixedOrders = true) (hf : P.funcs[f]? = some fn) (hname : (fn.name == "runtime.NumGoroutine") = false) (hc : fn.body.bind (comp P fn.ntmps) = some ac)
    (hargs : args.length ≤ fn.ntmps) (hrs : fn.results.toList.mapM (rvOf P) = some [r]) (ho : o.m = 0) (hpl : o.pl = true) (hb : ∀ r ∈ o.es, ∀ x ∈ r, HB x)
    (h : wps P fn.ntmps ac ⟨mkT 0 args, fun _ => none⟩ (retS r n o)) : CallOk P f args [] (.l (.sl 0 0 n)) [] [o] := by
  obtain ⟨c, hb', hc'⟩ := Option.bind_eq_some_iff.mp hc
  refine callOk_of hm hf hname hb' hc' hargs (by simp) hrs ?_
  have e : (fun k : Nat => ([] : List AObj)[k]?) = fun _ => none := by funext k; simp
  rw [argT_mkT, e]
  refine (AW_of_wps _ _ _ h).mono ?_
  intro x s hx
  cases x with
  | x id => exact hx.elim
  | n => obtain ⟨k, m, h1, h2, h3⟩ := hx; exact ⟨fun id e => AX.noConfusion e, finOk_new h1 h2 h3 ho hpl hb⟩
  | r => obtain ⟨k, m, h1, h2, h3⟩ := hx; exact ⟨fun id e => AX.noConfusion e, finOk_new h1 h2 h3 ho hpl hb⟩

def kth (ks : List Nat) (j : Nat) : Nat := (ks[j]?).getD 0

def okLn (n : Nat) : L → Bool
  | .sl k _ _ => decide (k < n)
  | .ptr k _ _ => decide (k < n)
  | x => x.pure

def okPn (n : Nat) : PV → Bool
  | .l x => okLn n x
  | .agg cs => cs.all (okLn n)
  | .tup _ => false

theorem WL_okn {st : St} {fz : Nat → Prop} {ks : List Nat} {news : List AObj} {x : L} (h : okLn news.length x = true) : WL st (kth ks) fz (fun k => (outH 0 [] news k).isSome = true) (renL (kth ks) x) x := by
  have hs : ∀ k, k < news.length → (outH 0 [] news k).isSome = true := by
    intro k hk
    simp [outH, hk]
  cases x with
  | sl k off len => exact .sl (hs k (by simpa [okLn] using h))
  | ptr k e o => exact .ptr (hs k (by simpa [okLn] using h))
  | v x => exact .same h
  | vs q xs => exact .same h
  | emp => exact .same h
  | pv q cs => simp [okLn, L.pure] at h
  | clos f ks => simp [okLn, L.pure] at h
  | bad => simp [okLn, L.pure] at h

theorem WLs_okn {st : St} {fz : Nat → Prop} {ks : List Nat} {news : List AObj} : ∀ {cs : List L}, cs.all (okLn news.length) = true → F2 (WL st (kth ks) fz (fun k => (outH 0 [] news k).isSome = true)) (cs.map (renL (kth ks))) cs
  | [], _ => .nil
  | c :: cs, h => by
    simp only [List.all_cons, Bool.and_eq_true] at h
    exact .cons (WL_okn h.1) (WLs_okn h.2)

theorem WP_okn {st : St} {fz : Nat → Prop} {ks : List Nat} {news : List AObj} {p : PV} (h : okPn news.length p = true) : WP st (kth ks) fz (fun k => (outH 0 [] news k).isSome = true) (renP (kth ks) p) p := by
  cases p with
  | l x => exact .l (WL_okn h)
  | agg cs => exact .agg (WLs_okn h)
  | tup _ => simp [okPn] at h

def okN (n : Nat) (o : AObj) : Bool := o.m == 0 && (o.pl || o.es.all fun r => r.all (okLn n))

/-- It returns these results, of these new objects. -/
def retG (rs : List RV) (ps : List PV) (news : List AObj) : AX → St → Prop
  | .x _, _ => False
  | _, s => ∃ ks : List Nat, ks.length = news.length ∧ ks.Nodup ∧ rets s rs (ps.map (renP (kth ks))) ∧ ∀ (j k : Nat) (o : AObj), ks[j]? = some k → news[j]? = some o → ∃ m, m ≤ 1 ∧ s.H k = some { renO (kth ks) o with m := m }

theorem retG_r {rs : List RV} {ps : List PV} {news : List AObj} {T : Nat → PV} {H : Nat → Option AObj} : retG rs ps news .r ⟨T, H⟩ =
  ∃ ks : List Nat, ks.length = news.length ∧ ks.Nodup ∧ rets ⟨T, H⟩ rs (ps.map (renP (kth ks))) ∧ ∀ (j k : Nat) (o : AObj), ks[j]? = some k → news[j]? = some o → ∃ m, m ≤ 1 ∧ H k = some { renO (kth ks) o with m := m } := rfl

theorem finOk_gen {s : St} {rs : List RV} {ps : List PV} {news : List AObj} {x : AX} (h : retG rs ps news x s) (hp : ps.all (okPn news.length) = true) (hn : news.all (okN news.length) = true) (hb : HBP (retV ps)) (hbo : ∀ o ∈ news, ∀ r ∈ o.es, ∀ x ∈ r, HB x) :
    (∀ id, x ≠ .x id) ∧ FinOk s rs 0 (retV ps) [] news := by
  have h' : (∀ id, x ≠ .x id) ∧ ∃ ks : List Nat, ks.length = news.length ∧ ks.Nodup ∧ rets s rs (ps.map (renP (kth ks))) ∧ ∀ (j k : Nat) (o : AObj), ks[j]? = some k → news[j]? = some o → ∃ m, m ≤ 1 ∧ s.H k = some { renO (kth ks) o with m := m } := by
    cases x with
    | x id => exact h.elim
    | n => exact ⟨fun id e => AX.noConfusion e, h⟩
    | r => exact ⟨fun id e => AX.noConfusion e, h⟩
  obtain ⟨hx, ks, hl, hnd, hr, ho⟩ := h'
  refine ⟨hx, ps.map (renP (kth ks)), ps, kth ks, fun _ => False, hr, by simp, ⟨?_, ?_, ?_⟩, by omega, rfl, ?_, hb, ?_⟩
  · intro t
    simp only [nth, List.getElem?_map]
    cases hpt : ps[t]? with
    | none => exact .bad _
    | some p => exact WP_okn (List.all_eq_true.mp hp p (List.mem_of_getElem? hpt))
  · intro k o' hk
    have hk' : news[k]? = some o' := by simpa [outH] using hk
    have hlt := (List.getElem?_eq_some_iff.mp hk').1
    have hks : ks[k]? = some (kth ks k) := by
      have hlk : k < ks.length := by omega
      rw [kth, List.getElem?_eq_getElem hlk]
      rfl
    obtain ⟨m, hm, hH⟩ := ho k _ o' hks hk'
    have hn' := List.all_eq_true.mp hn o' (List.mem_of_getElem? hk')
    simp only [okN, Bool.and_eq_true, beq_iff_eq, Bool.or_eq_true] at hn'
    refine ⟨_, hH, id, hm, hn'.1, ?_, ?_⟩
    · simp only [renO]; split <;> rfl
    · cases hpl : o'.pl with
      | true =>
        left
        simp [renO, hpl]
      | false =>
        right
        have hes : o'.es.all (fun r => r.all (okLn news.length)) = true := by simpa [hpl] using hn'.2
        refine ⟨?_, by simp⟩
        simp only [renO, hpl, Bool.false_eq_true, if_false]
        generalize o'.es = es at hes
        induction es with
        | nil => exact .nil
        | cons r es ih =>
          simp only [List.all_cons, Bool.and_eq_true] at hes
          exact .cons (WLs_okn hes.1) (ih hes.2)
  · intro k k' hk hk' e
    simp only [outH, Nat.not_lt_zero, if_false, Nat.sub_zero] at hk hk'
    have h1 : k < ks.length := by rw [hl]; exact (List.getElem?_eq_some_iff.mp (Option.isSome_iff_exists.mp hk).choose_spec).1
    have h2 : k' < ks.length := by rw [hl]; exact (List.getElem?_eq_some_iff.mp (Option.isSome_iff_exists.mp hk').choose_spec).1
    rw [kth, kth, List.getElem?_eq_getElem h1, List.getElem?_eq_getElem h2] at e
    exact (List.getElem_inj hnd).mp e
  · refine List.all_eq_true.mpr fun p hpm => ?_
    have := List.all_eq_true.mp hp p hpm
    cases p <;> first | rfl | simp [okPn] at this
  · intro k o hk
    have hk' : news[k]? = some o := by simpa [outH] using hk
    exact hbo o (List.mem_of_getElem? hk')

/-- A function that hands back results of new objects. -/
theorem callOk_gen {P : Program} {f : FuncId} {fn : Func} {ac : ACode} {args : List PV} {rs : List RV} {ps : List PV} {news : List AObj}
    (hm : P.follows .mixedOrders = true) (hf : P.funcs[f]? = some fn) (hname : (fn.name == "runtime.NumGoroutine") = false) (hc : fn.body.bind (comp P fn.ntmps) = some ac)
    (hargs : args.length ≤ fn.ntmps) (hrs : fn.results.toList.mapM (rvOf P) = some rs) (hp : ps.all (okPn news.length) = true) (hn : news.all (okN news.length) = true) (hb : HBP (retV ps)) (hbo : ∀ o ∈ news, ∀ r ∈ o.es, ∀ x ∈ r, HB x)
    (h : AW P fn.ntmps ac ⟨mkT 0 args, fun _ => none⟩ (retG rs ps news)) : CallOk P f args [] (retV ps) [] news := by
  obtain ⟨c, hb', hc'⟩ := Option.bind_eq_some_iff.mp hc
  refine callOk_of hm hf hname hb' hc' hargs (by simp) hrs ?_
  have e : (fun k : Nat => ([] : List AObj)[k]?) = fun _ => none := by funext k; simp
  rw [argT_mkT, e]
  exact h.mono fun x s hx => finOk_gen hx hp hn hb hbo

theorem back_nil (D i : Nat) : back [] D i = D + 1000 * i := by simp [back, key]

/-- A call that hands back results of new objects. -/
theorem CS.gen {P : Program} {g : Nat} {args args' : List PV} {val : PV} {news : List AObj} {d : Nat} {T : Nat → PV} {H : Nat → Option AObj} {K : List Nat × List Nat → St → Prop}
    (hc : CallOk P g args' [] val [] news) (ha : ∀ p ∈ args, argPOk [] (vis H) p) (he : args.map (argP [] (vis H)) = args') (hf : ∀ j, j < news.length → fre H (d + 1000 + 1000 * j) = true)
    (hk : K (args.flatMap (footP [] (vis H)) ++ [], (List.range news.length).map fun j => d + 1000 + 1000 * j) ⟨upd T d (renP (fun i => d + 1000 + 1000 * i) val), updL H (news.zipIdx.map fun x => (d + 1000 + 1000 * x.2, some (renO (fun i => d + 1000 + 1000 * i) x.1)))⟩) : CS P g args (some d) ⟨T, H⟩ K := by
  have e : back [] (d + 1000) = fun i => d + 1000 + 1000 * i := by funext i; exact back_nil _ _
  refine CS.mk ⟨⟨[], val, [], news, []⟩, rfl, ?_, ha, ⟨.nil, by simp [callIns], trivial⟩, ?_, ?_⟩
  · rw [List.all_eq_true]
    intro j hj
    exact hf j (by simpa using hj)
  · rw [he]; exact hc
  · simp only [Option.getD_some, e]
    exact hk

/-- A leaf that leads to none but these objects. -/
def okD (D : Nat → Bool) : L → Bool
  | .sl k _ _ => D k
  | .ptr k _ _ => D k
  | .clos _ ks => ks.all D
  | x => x.pure

def okPD (D : Nat → Bool) : PV → Bool
  | .l x => okD D x
  | .agg cs => cs.all (okD D)
  | .tup _ => false

theorem WL_okD {st : St} {g : Nat → Nat} {fz : Nat → Prop} {D : Nat → Bool} {x : L} (h : okD D x = true) : WL st g fz (fun k => D k = true) (renL g x) x := by
  cases x with
  | sl k off len => exact .sl (by simpa [okD] using h)
  | ptr k e o => exact .ptr (by simpa [okD] using h)
  | v x => exact .same h
  | vs q xs => exact .same h
  | emp => exact .same h
  | pv q cs => simp [okD, L.pure] at h
  | clos f ks => exact .clos (by simpa [okD] using h)
  | bad => simp [okD, L.pure] at h

theorem WLs_okD {st : St} {g : Nat → Nat} {fz : Nat → Prop} {D : Nat → Bool} : ∀ {cs : List L}, cs.all (okD D) = true → F2 (WL st g fz (fun k => D k = true)) (cs.map (renL g)) cs
  | [], _ => .nil
  | c :: cs, h => by
    simp only [List.all_cons, Bool.and_eq_true] at h
    exact .cons (WL_okD h.1) (WLs_okD h.2)

theorem WP_okD {st : St} {g : Nat → Nat} {fz : Nat → Prop} {D : Nat → Bool} {p : PV} (h : okPD D p = true) : WP st g fz (fun k => D k = true) (renP g p) p := by
  cases p with
  | l x => exact .l (WL_okD h)
  | agg cs => exact .agg (WLs_okD h)
  | tup _ => simp [okPD] at h

def okO (D : Nat → Bool) (o : AObj) : Bool := o.m == 0 && (o.pl || o.es.all fun r => r.all (okD D))

/-- Where the objects lie that are handed back: those that were handed over where they were, the new ones at ks. -/
def kpos (n : Nat) (ks : List Nat) (j : Nat) : Nat := if j < n then j else (ks[j - n]?).getD 0

def retX (rs : List RV) (ps : List PV) (n : Nat) (outs : List (Option AObj)) (news : List AObj) : AX → St → Prop
  | .x _, _ => False
  | _, s => ∃ ks : List Nat, ks.length = news.length ∧ ks.Nodup ∧ (∀ k ∈ ks, n ≤ k) ∧ rets s rs (ps.map (renP (kpos n ks))) ∧ ∀ k o, outH n outs news k = some o → ∃ m, m ≤ 1 ∧ s.H (kpos n ks k) = some { renO (kpos n ks) o with m := m }

theorem retX_r {rs : List RV} {ps : List PV} {n : Nat} {outs : List (Option AObj)} {news : List AObj} {s : St} (ks : List Nat) (hl : ks.length = news.length) (hnd : ks.Nodup) (hn : ∀ k ∈ ks, n ≤ k) (hr : rets s rs (ps.map (renP (kpos n ks)))) (ho : outs.length = n)
    (h1 : ∀ (j : Nat) (o : AObj), outs[j]? = some (some o) → ∃ m, m ≤ 1 ∧ s.H j = some { renO (kpos n ks) o with m := m }) (h2 : ∀ (j k : Nat) (o : AObj), ks[j]? = some k → news[j]? = some o → ∃ m, m ≤ 1 ∧ s.H k = some { renO (kpos n ks) o with m := m }) : retX rs ps n outs news .r s := by
  refine ⟨ks, hl, hnd, hn, hr, fun k o hk => ?_⟩
  unfold outH at hk
  unfold kpos
  split at hk
  · rename_i h
    rw [if_pos h]
    refine h1 k o ?_
    cases e : outs[k]? with
    | none => rw [e] at hk; cases hk
    | some x => rw [e] at hk; exact congrArg some hk
  · rename_i h
    rw [if_neg h]
    have hlt := (List.getElem?_eq_some_iff.mp hk).1
    have hks : ks[k - n]? = some (ks[k - n]'(by omega)) := List.getElem?_eq_getElem _
    rw [hks, Option.getD_some]
    exact h2 (k - n) _ o hks hk

theorem finOk_all {s : St} {rs : List RV} {ps : List PV} {n : Nat} {outs : List (Option AObj)} {news : List AObj} {x : AX} (h : retX rs ps n outs news x s) (hp : ps.all (okPD fun k => (outH n outs news k).isSome) = true) (hn : ∀ k o, outH n outs news k = some o → okO (fun k => (outH n outs news k).isSome) o = true)
    (hb : HBP (retV ps)) (hbo : ∀ k o, outH n outs news k = some o → ∀ r ∈ o.es, ∀ x ∈ r, HB x) : (∀ id, x ≠ .x id) ∧ FinOk s rs n (retV ps) outs news := by
  have h' : (∀ id, x ≠ .x id) ∧ ∃ ks : List Nat, ks.length = news.length ∧ ks.Nodup ∧ (∀ k ∈ ks, n ≤ k) ∧ rets s rs (ps.map (renP (kpos n ks))) ∧ ∀ k o, outH n outs news k = some o → ∃ m, m ≤ 1 ∧ s.H (kpos n ks k) = some { renO (kpos n ks) o with m := m } := by
    cases x with
    | x id => exact h.elim
    | n => exact ⟨fun id e => AX.noConfusion e, h⟩
    | r => exact ⟨fun id e => AX.noConfusion e, h⟩
  obtain ⟨hx, ks, hl, hnd, hge, hr, ho⟩ := h'
  refine ⟨hx, ps.map (renP (kpos n ks)), ps, kpos n ks, fun _ => False, hr, by simp, ⟨?_, ?_, ?_⟩, fun i hi _ => if_pos hi, rfl, ?_, hb, hbo⟩
  · intro t
    simp only [nth, List.getElem?_map]
    cases hpt : ps[t]? with
    | none => exact .bad _
    | some p => exact WP_okD (List.all_eq_true.mp hp p (List.mem_of_getElem? hpt))
  · intro k o' hk
    obtain ⟨m, hm, hH⟩ := ho k o' hk
    have hn' := hn k o' hk
    simp only [okO, Bool.and_eq_true, beq_iff_eq, Bool.or_eq_true] at hn'
    refine ⟨_, hH, id, hm, hn'.1, ?_, ?_⟩
    · simp only [renO]; split <;> rfl
    · cases hpl : o'.pl with
      | true => left; simp [renO, hpl]
      | false =>
        right
        have hes : o'.es.all (fun r => r.all (okD fun k => (outH n outs news k).isSome)) = true := by simpa [hpl] using hn'.2
        refine ⟨?_, by simp⟩
        simp only [renO, hpl, Bool.false_eq_true, if_false]
        generalize o'.es = es at hes
        induction es with
        | nil => exact .nil
        | cons r es ih =>
          simp only [List.all_cons, Bool.and_eq_true] at hes
          exact .cons (WLs_okD hes.1) (ih hes.2)
  · intro k k' hk hk' e
    have hlt : ∀ k, (outH n outs news k).isSome = true → n ≤ k → ∃ h : k - n < ks.length, kpos n ks k = ks[k - n] := by
      intro k hk hnk
      unfold outH at hk
      rw [if_neg (by omega)] at hk
      have h1 : k - n < ks.length := by rw [hl]; exact (List.getElem?_eq_some_iff.mp (Option.isSome_iff_exists.mp hk).choose_spec).1
      exact ⟨h1, by unfold kpos; rw [if_neg (by omega), List.getElem?_eq_getElem h1]; rfl⟩
    have hlow : ∀ k, k < n → kpos n ks k = k := fun k h => if_pos h
    simp only at hk hk'
    rcases Nat.lt_or_ge k n with h1 | h1 <;> rcases Nat.lt_or_ge k' n with h2 | h2
    · rw [hlow k h1, hlow k' h2] at e; exact e
    · obtain ⟨h3, h4⟩ := hlt k' hk' h2
      rw [hlow k h1, h4] at e
      have := hge _ (List.getElem_mem h3)
      omega
    · obtain ⟨h3, h4⟩ := hlt k hk h1
      rw [hlow k' h2, h4] at e
      have := hge _ (List.getElem_mem h3)
      omega
    · obtain ⟨h3, h4⟩ := hlt k hk h1
      obtain ⟨h5, h6⟩ := hlt k' hk' h2
      rw [h4, h6] at e
      have := (List.getElem_inj hnd).mp e
      omega
  · refine List.all_eq_true.mpr fun p hpm => ?_
    have := List.all_eq_true.mp hp p hpm
    cases p <;> first | rfl | simp [okPD] at this

/-- A function of objects that are handed over, that hands back some and new ones. -/
theorem callOk_all {P : Program} {f : FuncId} {fn : Func} {ac : ACode} {args : List PV} {ins : List AObj} {rs : List RV} {ps : List PV} {outs : List (Option AObj)} {news : List AObj}
    (hm : P.follows .mixedOrders = true) (hf : P.funcs[f]? = some fn) (hname : (fn.name == "runtime.NumGoroutine") = false) (hc : fn.body.bind (comp P fn.ntmps) = some ac)
    (hargs : args.length ≤ fn.ntmps) (hins : ins.length ≤ 1000) (hrs : fn.results.toList.mapM (rvOf P) = some rs) (hp : ps.all (okPD fun k => (outH ins.length outs news k).isSome) = true) (hn : ∀ k o, outH ins.length outs news k = some o → okO (fun k => (outH ins.length outs news k).isSome) o = true)
    (hb : HBP (retV ps)) (hbo : ∀ k o, outH ins.length outs news k = some o → ∀ r ∈ o.es, ∀ x ∈ r, HB x)
    (h : AW P fn.ntmps ac ⟨mkT 0 args, mkH (ins.zipIdx.map fun x => (x.2, x.1))⟩ (retX rs ps ins.length outs news)) : CallOk P f args ins (retV ps) outs news := by
  obtain ⟨c, hb', hc'⟩ := Option.bind_eq_some_iff.mp hc
  refine callOk_of hm hf hname hb' hc' hargs hins hrs ?_
  have e : (fun k : Nat => ins[k]?) = mkH (ins.zipIdx.map fun x => (x.2, x.1)) := by
    have gen : ∀ (l : List AObj) (i k : Nat), mkH ((l.zipIdx i).map fun x => (x.2, x.1)) k = if i ≤ k then l[k - i]? else none := by
      intro l
      induction l with
      | nil => intro i k; simp [mkH]
      | cons o l ih =>
        intro i k
        simp only [List.zipIdx_cons, List.map_cons, mkH, upd]
        by_cases h : k = i
        · subst h; simp
        · rw [if_neg h, ih]
          by_cases h2 : i + 1 ≤ k
          · rw [if_pos h2, if_pos (by omega), show k - i = (k - (i + 1)) + 1 by omega, List.getElem?_cons_succ]
          · rw [if_neg h2, if_neg (by omega)]
    funext k
    rw [gen ins 0 k]
    simp
  rw [argT_mkT, e]
  exact h.mono fun x s hx => finOk_all hx hp hn hb hbo

/-- A call that is handed objects and leaves them as they are. -/
theorem CS.same {P : Program} {g : Nat} {args args' : List PV} {val : PV} {ins : List AObj} {d : Option Nat} {T : Nat → PV} {H : Nat → Option AObj} {K : List Nat × List Nat → St → Prop} (ks : List Nat)
    (hc : CallOk P g args' ins val (ins.map some) []) (ha : ∀ p ∈ args, argPOk ks (vis H) p) (he : args.map (argP ks (vis H)) = args') (hi : (callIns ks (vis H)).map (inO ks) = ins) (hnd : ks.Nodup)
    (hin : ∀ k ∈ ks, ∃ o, H k = some o ∧ o.m ≠ 3 ∧ inOk ks o ∧ renO (back ks (d.getD 0 + 1000)) (inO ks o) = o) (hv : pureP val = true) (hk : K (args.flatMap (footP ks (vis H)) ++ ks, ks) ((⟨T, H⟩ : St).put d val [])) : CS P g args d ⟨T, H⟩ K := by
  have hvis : ∀ k ∈ ks, ∀ o, H k = some o → o.m ≠ 3 → vis H k = some o := by
    intro k _ o h1 h2
    simp [vis, h1, h2]
  have hcal : ∀ o ∈ callIns ks (vis H), ∃ k ∈ ks, H k = some o ∧ inOk ks o ∧ renO (back ks (d.getD 0 + 1000)) (inO ks o) = o := by
    intro o ho
    obtain ⟨k, hk, rfl⟩ := List.mem_map.mp ho
    obtain ⟨o, h1, h2, h3, h4⟩ := hin k hk
    simp only [hvis k hk o h1 h2, Option.getD_some]
    exact ⟨k, hk, h1, h3, h4⟩
  refine CS.mk ⟨⟨ks, val, ins.map some, [], []⟩, ?_, rfl, ha, ⟨hnd, ?_, ?_⟩, ?_, ?_⟩
  · rw [List.all_eq_true]
    intro k hk
    obtain ⟨o, h1, h2, _⟩ := hin k hk
    rw [hvis k hk o h1 h2]
    rfl
  · intro o ho
    exact (hcal o ho).choose_spec.2.2.1
  · subst hi
    clear hc hcal
    generalize callIns ks (vis H) = l
    induction l with
    | nil => trivial
    | cons o l ih => exact ⟨inO_e ks o, ih⟩
  · rw [he, hi]; exact hc
  · simp only [renP_pure hv]
    have e : updL H (callBack ks (d.getD 0 + 1000) (ins.map some) ++ ([] : List AObj).zipIdx.map fun (o, j) => (key (d.getD 0 + 1000) j, some (renO (back ks (d.getD 0 + 1000)) o))) = H := by
      have hstep : ∀ (Δ : List (Nat × Option AObj)) (F : Nat → Option AObj), (∀ x ∈ Δ, F x.1 = x.2) → updL F Δ = F := by
        intro Δ
        induction Δ with
        | nil => intro F _; rfl
        | cons x Δ ih =>
          intro F h
          have : upd F x.1 x.2 = F := by
            funext j; unfold upd; split
            · rename_i e; rw [e, h x (by simp)]
            · rfl
          show updL (upd F x.1 x.2) Δ = F
          rw [this]
          exact ih F fun y hy => h y (by simp [hy])
      refine hstep _ _ ?_
      intro x hx
      simp only [List.zipIdx_nil, List.map_nil, List.append_nil] at hx
      simp only [callBack, List.mem_map] at hx
      obtain ⟨q, hq, rfl⟩ := hx
      have hq2 := List.mem_zipIdx hq
      have hmem : q.1 ∈ ks := hq2.2.2 ▸ List.getElem_mem _
      obtain ⟨o, h1, h2, h3, h4⟩ := hin q.1 hmem
      have hks : ks[q.2]? = some q.1 := by
        rw [hq2.2.2]
        simp [List.getElem?_eq_getElem]
      have hio : ins[q.2]? = some (inO ks o) := by
        rw [← hi]
        simp [callIns, hks, hvis q.1 hmem o h1 h2]
      simp only [List.getElem?_map, hio, Option.map_some, Option.join_some, backO, h4]
      exact h1
    have e2 : (⟨T, H⟩ : St).put d val (callBack ks (d.getD 0 + 1000) (ins.map some) ++ ([] : List AObj).zipIdx.map fun (o, j) => (key (d.getD 0 + 1000) j, some (renO (back ks (d.getD 0 + 1000)) o))) = (⟨T, H⟩ : St).put d val [] := by
      show (⟨_, updL H _⟩ : St) = ⟨_, updL H []⟩
      rw [e]; rfl
    rw [e2]
    have e3 : (ks.filter fun k => !([] : List Nat).contains k) = ks := List.filter_eq_self.mpr (by simp)
    simp only [e3, List.length_nil, List.range_zero, List.map_nil, List.append_nil]
    exact hk

/- The walk's words, in two. -/
theorem WA : type_of% (And.intro @wps_seq (And.intro @wps_reg (And.intro @wps_reg' (And.intro @RSu_nil (And.intro @RSu_go (And.intro @wps_ret (And.intro @wps_cond (And.intro @wps_block (And.intro @wps_exit (And.intro @wps_skip (And.intro @thenX_n (And.intro @thenX_r (And.intro @thenX_x (And.intro @inX_n (And.intro @inX_r (And.intro @inX_x (And.intro @RS_nil (And.intro @RS_go @RS_gd)))))))))))))))))) := And.intro @wps_seq (And.intro @wps_reg (And.intro @wps_reg' (And.intro @RSu_nil (And.intro @RSu_go (And.intro @wps_ret (And.intro @wps_cond (And.intro @wps_block (And.intro @wps_exit (And.intro @wps_skip (And.intro @thenX_n (And.intro @thenX_r (And.intro @thenX_x (And.intro @inX_n (And.intro @inX_r (And.intro @inX_x (And.intro @RS_nil (And.intro @RS_go @RS_gd)))))))))))))))))
theorem WB : type_of% (And.intro (@List.getD_cons_zero.{0}) (And.intro (@List.getD_cons_succ.{0}) (And.intro (@List.contains_cons.{0}) (And.intro (@List.contains_nil.{0}) (And.intro (@Bool.or_self) (And.intro (@Bool.or_false) (And.intro (@Bool.false_or) (And.intro (@Bool.and_self) (And.intro (@Bool.true_and) (And.intro (@Bool.and_false) (And.intro (@Bool.false_and) (And.intro (@fin_some) (And.intro (@put_some) (And.intro (@put_none) (And.intro (@updL_nil) (And.intro (@updL_cons) (And.intro (@ev_t) (And.intro (@ev_c) (And.intro (@upd_same) (And.intro (@vis_same) (And.intro (@vis_none) (And.intro (@fre_none) (And.intro (@ne_eq.{1}) (And.intro (@isB_b) (And.intro (@isB_u) (And.intro (@bo_b) (And.intro (@true_and) (And.intro (@and_true) (And.intro (@and_self) (And.intro (@retQ_r) (And.intro (@retQ_n) (And.intro (@rets_nil) (And.intro (@rets_t) (And.intro (@rets_c) (And.intro (@retS_r) (And.intro (@retS_n) (And.intro (@Option.map_some.{0, 0}) (And.intro (@Option.getD_some.{0}) (And.intro (@decide_eq_true_eq) (And.intro (@Bool.not_true) (And.intro (@Bool.not_false) (And.intro (@Bool.false_eq_true) (And.intro (@Bool.true_eq_false) (And.intro (@Bool.and_true) (And.intro (@Option.isSome_some.{0}) (And.intro (@List.filterMap_cons.{0, 0}) (And.intro (@List.filterMap_nil.{0, 0}) (And.intro (@id_eq.{1}) (And.intro (@List.map_nil.{0, 0}) (And.intro (@List.map_cons.{0, 0}) (And.intro (@List.drop_zero.{0}) (And.intro (@List.drop_succ_cons.{0}) (And.intro (@List.take_zero.{0}) (And.intro (@List.take_succ_cons.{0}) (And.intro (@List.length_cons.{0}) (And.intro (@List.length_nil.{0}) (And.intro (@List.getElem?_cons_zero.{0}) (And.intro (@List.getElem?_cons_succ.{0}) (And.intro (@Nat.zero_add) (And.intro (@List.append_nil.{0}) (And.intro (@Int.toNat_natCast) (And.intro (@Int.natCast_zero) (And.intro (@decide_eq_false_iff_not) (And.intro (@List.cons_append.{0}) (And.intro (@List.nil_append.{0}) (And.intro (@List.set_cons_zero.{0}) (And.intro (@List.set_cons_succ.{0}) (And.intro (@List.all_cons.{0}) (And.intro (@List.all_nil.{0}) (And.intro (@List.forall_mem_cons.{0}) (And.intro (@List.not_mem_nil.{0}) (And.intro (@false_implies) (And.intro (@implies_true.{0}) (And.intro (@Nat.add_zero) (And.intro (@upd_ne) (And.intro (@vis_ne) (@fre_ne))))))))))))))))))))))))))))))))))))))))))))))))))))))))))))))))))))))))))))) := And.intro (@List.getD_cons_zero.{0}) (And.intro (@List.getD_cons_succ.{0}) (And.intro (@List.contains_cons.{0}) (And.intro (@List.contains_nil.{0}) (And.intro (@Bool.or_self) (And.intro (@Bool.or_false) (And.intro (@Bool.false_or) (And.intro (@Bool.and_self) (And.intro (@Bool.true_and) (And.intro (@Bool.and_false) (And.intro (@Bool.false_and) (And.intro (@fin_some) (And.intro (@put_some) (And.intro (@put_none) (And.intro (@updL_nil) (And.intro (@updL_cons) (And.intro (@ev_t) (And.intro (@ev_c) (And.intro (@upd_same) (And.intro (@vis_same) (And.intro (@vis_none) (And.intro (@fre_none) (And.intro (@ne_eq.{1}) (And.intro (@isB_b) (And.intro (@isB_u) (And.intro (@bo_b) (And.intro (@true_and) (And.intro (@and_true) (And.intro (@and_self) (And.intro (@retQ_r) (And.intro (@retQ_n) (And.intro (@rets_nil) (And.intro (@rets_t) (And.intro (@rets_c) (And.intro (@retS_r) (And.intro (@retS_n) (And.intro (@Option.map_some.{0, 0}) (And.intro (@Option.getD_some.{0}) (And.intro (@decide_eq_true_eq) (And.intro (@Bool.not_true) (And.intro (@Bool.not_false) (And.intro (@Bool.false_eq_true) (And.intro (@Bool.true_eq_false) (And.intro (@Bool.and_true) (And.intro (@Option.isSome_some.{0}) (And.intro (@List.filterMap_cons.{0, 0}) (And.intro (@List.filterMap_nil.{0, 0}) (And.intro (@id_eq.{1}) (And.intro (@List.map_nil.{0, 0}) (And.intro (@List.map_cons.{0, 0}) (And.intro (@List.drop_zero.{0}) (And.intro (@List.drop_succ_cons.{0}) (And.intro (@List.take_zero.{0}) (And.intro (@List.take_succ_cons.{0}) (And.intro (@List.length_cons.{0}) (And.intro (@List.length_nil.{0}) (And.intro (@List.getElem?_cons_zero.{0}) (And.intro (@List.getElem?_cons_succ.{0}) (And.intro (@Nat.zero_add) (And.intro (@List.append_nil.{0}) (And.intro (@Int.toNat_natCast) (And.intro (@Int.natCast_zero) (And.intro (@decide_eq_false_iff_not) (And.intro (@List.cons_append.{0}) (And.intro (@List.nil_append.{0}) (And.intro (@List.set_cons_zero.{0}) (And.intro (@List.set_cons_succ.{0}) (And.intro (@List.all_cons.{0}) (And.intro (@List.all_nil.{0}) (And.intro (@List.forall_mem_cons.{0}) (And.intro (@List.not_mem_nil.{0}) (And.intro (@false_implies) (And.intro (@implies_true.{0}) (And.intro (@Nat.add_zero) (And.intro (@upd_ne) (And.intro (@vis_ne) (@fre_ne))))))))))))))))))))))))))))))))))))))))))))))))))))))))))))))))))))))))))))
end Go.Ab
