/- The evaluator's rules keep what follows from what they say. -/
import Derived.Test.YtelmlcciphafjaaGreatDoorAc1
namespace Go.Proofs.Ab
open Go Go.RowKit

/-- One reading says at least what another one says. -/
def Le (X Y : Rec) : Prop := ∀ t h k k', X t h k → (∀ r h, k r h → k' r h) → Y t h k'

/-- A hook keeps what follows from what it says. -/
def HkMono (E : E) : Prop := ∀ f hk, E.hk f = some hk → ∀ args h k k', hk args h k → (∀ c h, k c h → k' c h) → hk args h k'

section
variable {E : E} {X Y : Rec}

theorem roundK_mono (l : Le X Y) {i : Nat} {args : List V} {h : H} {k k' : CR → H → Prop} (hk : ∀ c h, k c h → k' c h) (e : roundK E X i args h k) : roundK E Y i args h k' := by
  unfold roundK at e ⊢
  cases hl : loopAt h i with
  | none => rw [hl] at e; exact e.elim
  | some q =>
    try simp only [hl] at e ⊢
    cases hb : Nat.beq args.length q.params.size with
    | false => rw [hb] at e; exact e.elim
    | true =>
      try simp only [hb, cond_true] at e ⊢
      refine l _ _ _ _ e ?_
      intro r h e
      cases r with
      | cr c cm => exact e
      | ex x fr =>
        cases x with
        | normal =>
          try simp only at e ⊢
          cases hl2 : loopAt h i with
          | none => simp only [hl2] at e
          | some q' =>
            try simp only [hl2] at e ⊢
            cases hs : q'.st <;> simp only [hs] at e ⊢
            rw [H.setK_eq] at e ⊢
            refine l _ _ _ _ e ?_
            intro r h e
            cases r with
            | cr c cm => exact e
            | ex x fr =>
              cases x with
              | pan v =>
                try simp only at e ⊢
                split at e
                · rename_i h1 h2; (try simp only [h1, h2]); exact hk _ _ e
                · exact e.elim
              | _ =>
                try simp only at e ⊢
                cases hl3 : loopAt h i with
                | none => simp only [hl3] at e
                | some q3 => simp only [hl3, H.setK_eq] at e ⊢; exact hk _ _ e
        | _ => exact e

theorem callV_mono (l : Le X Y) {f : V} {args : List V} {h : H} {k k' : CR → H → Prop} (hk : ∀ c h, k c h → k' c h) (e : callV E X f args h k) : callV E Y f args h k' := by
  unfold callV at e ⊢
  split at e
  · rename_i g first captured
    try simp only
    split at e
    · rename_i x hx
      (try simp only [hx])
      split at e
      · rename_i v h' hv
        (try simp only [hv]); exact hk _ _ e
      · exact e.elim
    · rename_i hx
      (try simp only [hx])
      refine l _ _ _ _ e ?_
      intro r h e
      cases r with
      | ex x fr => exact e
      | cr c cm => exact hk _ _ e
  · rename_i i
    try simp only
    exact roundK_mono l hk e
  · exact e.elim

theorem andL_mono {α : Type} {p q : α → Prop} (hpq : ∀ x, p x → q x) : ∀ (l : List α), andL p l → andL q l
  | [], e => e
  | [x], e => hpq _ e
  | x :: y :: r, e => ⟨hpq _ e.1, andL_mono hpq (y :: r) e.2⟩

theorem nextK_mono {h : H} {v : V} {k k' : V → H → Prop} (hk : ∀ v h, k v h → k' v h) (e : nextK h v k) : nextK h v k' := by
  unfold nextK at e ⊢
  split at e
  · rename_i i
    try simp only
    split at e
    · rename_i ho; (try simp only [ho]); exact hk _ _ e
    · rename_i b since seen stepped ho
      (try simp only [ho])
      split at e
      · rename_i x es clock hm
        (try simp only [hm])
        revert e
        generalize (bif ((seen.isEmpty || es.isEmpty || !(es.all fun e => Nat.ble stepped e.2.2)) && (es.all fun e => Nat.blt e.2.2 since)) then true else false) = c
        cases hc : ((seen.isEmpty || es.isEmpty || !(es.all fun e => Nat.ble stepped e.2.2)) && (es.all fun e => Nat.blt e.2.2 since)) with
        | false => intro e; exact e.elim
        | true =>
          (try simp only [cond_true])
          intro e
          split at e
          · rename_i hl; (try simp only [hl]); exact hk _ _ e
          · rename_i hl
            cases hf : es.filter (fun e => !seen.contains e.2.2) with
            | nil => exact absurd hf (by simpa using hl)
            | cons y ys =>
              rw [hf] at e
              try simp only
              refine andL_mono ?_ _ e
              intro x e
              rw [H.setK_eq] at e ⊢
              exact hk _ _ e
      · exact e.elim
    · exact e.elim
  · exact e.elim

theorem masksK_id {β : Type} : ∀ (os : List Oper) (i : Nat) (t : T Nat) (k : T Nat → β), masksK os i t k = k (masksK os i t id)
  | [], i, t, k => rfl
  | o :: os, i, t, k => by
    (try simp only [masksK, fN_eq, T.setK_set])
    exact masksK_id os _ _ _

theorem putK_iff {fr : Fr} {d : Option Tmp} {v : V} {k : Fr → Prop} : fr.putK d v k = k (fr.putK d v id) := by
  unfold Fr.putK
  cases d with
  | none => rfl
  | some d =>
    try simp only
    cases Nat.blt d fr.n
    · rfl
    · simp only [cond_true, fV_eq, T.setK_set, id_eq]

theorem actK_mono (l : Le X Y) {fr : Fr} {h : H} {o : Oper} {k k' kp kp' : V → H → Prop} (hk : ∀ v h, k v h → k' v h) (hkp : ∀ v h, kp v h → kp' v h) (e : actK E X fr h o k kp) : actK E Y fr h o k' kp' := by
  unfold actK at e ⊢
  split at e
  · split at e
    · rename_i h1 h2
      (try simp only [h1, h2])
      refine callV_mono l ?_ e
      intro c h e
      cases c with
      | ret v => exact hk _ _ e
      | pan v => exact hkp _ _ e
    · exact e.elim
  · split at e
    · rename_i h1
      (try simp only [h1])
      exact nextK_mono hk e
    · exact e.elim
  · split at e
    · rename_i a b h1 h2
      (try simp only [h1, h2])
      cases hc : anyCmp _ a b with
      | true => rw [hc] at e; exact ⟨hk _ _ e.1, hk _ _ e.2⟩
      | false =>
        rw [hc] at e
        try simp only [cond_false] at e ⊢
        split at e
        · rename_i h3; (try simp only [h3]); exact hk _ _ e
        · exact e.elim
    · exact e.elim
  · split at e
    · rename_i h4; (try simp only [h4])
      exact hk _ _ e
    · exact e.elim

theorem opK_mono (l : Le X Y) {rd : Option B} {fr : Fr} {h : H} {o : Oper} {k k' : Fr → H → Prop} {kp kp' : V → H → Prop} (hk : ∀ v h, k v h → k' v h) (hkp : ∀ v h, kp v h → kp' v h) (e : opK E X rd fr h o k kp) : opK E Y rd fr h o k' kp' := by
  unfold opK at e ⊢
  split at e
  · cases rd with
    | some b => exact e
    | none =>
      cases hc : fr.cm with
      | plain => simp only [hc] at e ⊢; rw [putK_iff] at e ⊢; exact hk _ _ e
      | ret => simp only [hc] at e ⊢; rw [putK_iff] at e ⊢; exact hk _ _ e
      | pan v b => cases b <;> simp only [hc] at e ⊢ <;> rw [putK_iff] at e ⊢ <;> exact hk _ _ e
  · split at e
    · rw [putK_iff] at e ⊢; exact hk _ _ e
    · exact e.elim
  · split at e
    · exact hkp _ _ e
    · exact e.elim
  · refine actK_mono l ?_ hkp e
    intro v h e
    rw [putK_iff] at e ⊢; exact hk _ _ e

theorem opsK_mono (l : Le X Y) {rd : Option B} {all : Array Oper} {k k' : Rs → H → Prop} (hk : ∀ r h, k r h → k' r h) : ∀ (os : List Oper) (fr : Fr) (h : H), opsK E X rd all os fr h k → opsK E Y rd all os fr h k'
  | [], fr, h, e => hk _ _ e
  | o :: os, fr, h, e => by
    unfold opsK at e ⊢
    cases hw : wantedV all fr o with
    | true =>
      rw [hw] at e
      try simp only [cond_true] at e ⊢
      exact opK_mono l (fun fr h e => opsK_mono l hk os fr h e) (fun v h e => hk _ _ e) e
    | false =>
      rw [hw] at e
      try simp only [cond_false] at e ⊢
      rw [putK_iff] at e ⊢
      exact opsK_mono l hk os _ h e

theorem fillK_mono {P : Program} {ops : Array Oper} {n : Nat} {k k' : Fr → H → Option Nat → Prop} (hk : ∀ fr h pn, k fr h pn → k' fr h pn) : ∀ (ps : List (Oper × Nat × Nat)) (fr : Fr) (h : H) (pn : Option Nat), fillK P ops n k ps fr h pn → fillK P ops n k' ps fr h pn
  | [], fr, h, pn, e => hk _ _ _ e
  | (o, lo, hi) :: r, fr, h, pn, e => by
    unfold fillK at e ⊢
    cases hb : Nat.beq lo n with
    | false => rw [hb] at e; (try simp only [cond_false] at e ⊢); exact fillK_mono hk r fr h pn e
    | true =>
      rw [hb] at e
      try simp only [cond_true] at e ⊢
      cases hw : wantedV ops fr o with
      | false =>
        rw [hw] at e
        try simp only [cond_false] at e ⊢
        rw [putK_iff] at e ⊢
        exact fillK_mono hk r _ h pn e
      | true =>
        rw [hw] at e
        try simp only [cond_true] at e ⊢
        split at e
        · rename_i v h' hv
          (try simp only [hv])
          rw [putK_iff] at e ⊢
          cases hd : Nat.ble (kd P o.op) 1 with
          | true => rw [hd] at e; (try simp only [cond_true] at e ⊢); exact fillK_mono hk r _ h pn e
          | false =>
            rw [hd] at e
            try simp only [cond_false] at e ⊢
            cases hL : isLoose o.op with
            | true => rw [hL] at e; (try simp only [cond_true] at e ⊢); exact fillK_mono hk r _ h' _ e
            | false => rw [hL] at e; exact e.elim
        · exact e.elim

theorem regE_mono (l : Le X Y) {ops : Array Oper} {ps : List (Oper × Nat × Nat)} {k k' : Fr → H → Prop} (hk : ∀ r h, k r h → k' r h) : ∀ (es : List (Oper × Nat)) (n : Nat) (fr : Fr) (h : H) (pn : Option Nat), regE E X ops ps k es n fr h pn → regE E Y ops ps k' es n fr h pn
  | [], n, fr, h, pn, e => by
    unfold regE at e ⊢
    refine fillK_mono ?_ _ _ _ _ e
    intro fr h pn e
    cases hc : checkE E.P ops n h pn fr ps with
    | false => rw [hc] at e; exact e.elim
    | true => rw [hc] at e; exact hk _ _ e
  | x :: es, n, fr, h, pn, e => by
    unfold regE at e ⊢
    refine fillK_mono ?_ _ _ _ _ e
    intro fr h pn e
    cases hc : checkE E.P ops n h pn fr ps with
    | false => rw [hc] at e; exact e.elim
    | true =>
      rw [hc] at e
      try simp only [cond_true] at e ⊢
      cases hw : wantedV ops fr x.1 with
      | true =>
        rw [hw] at e
        try simp only [cond_true] at e ⊢
        refine actK_mono l ?_ (fun _ _ e => e) e
        intro v h e
        rw [putK_iff] at e ⊢
        exact regE_mono l hk es _ _ h pn e
      | false =>
        rw [hw] at e
        try simp only [cond_false] at e ⊢
        rw [putK_iff] at e ⊢
        exact regE_mono l hk es _ _ h pn e

theorem estep_mono (hm : HkMono E) (l : Le X Y) : Le (estep E X) (estep E Y) := by
  intro t h k k' e hk
  cases t with
  | code fn rd c fr =>
    cases c with
    | skip => exact hk _ _ e
    | label _ => exact hk _ _ e
    | exit id => exact hk _ _ e
    | goto l => exact hk _ _ e
    | ret => exact hk _ _ e
    | refuse _ => exact e
    | region id ops d =>
      cases d with
      | false => exact opsK_mono l hk _ _ _ e
      | true =>
        simp only [estep] at e ⊢
        cases hp : planE E.P ops with
        | none => rw [hp] at e; exact e.elim
        | some p => rw [hp] at e; exact regE_mono l (fun fr h e => hk _ _ e) _ _ _ _ _ e
    | seq a b =>
      simp only [estep] at e ⊢
      refine l _ _ _ _ e ?_
      intro r h e
      cases r with
      | cr c cm => exact hk _ _ e
      | ex x fr => cases x with
        | normal => exact l _ _ _ _ e hk
        | _ => exact hk _ _ e
    | cond c a b =>
      simp only [estep] at e ⊢
      split at e
      · exact l _ _ _ _ e hk
      · exact l _ _ _ _ e hk
      · exact e.elim
    | block id b =>
      simp only [estep] at e ⊢
      refine l _ _ _ _ e ?_
      intro r h e
      cases r with
      | cr c cm => exact hk _ _ e
      | ex x fr => cases x with
        | exit j =>
          simp only at e ⊢
          cases hb : Nat.beq j id with
          | true => rw [hb] at e; exact hk _ _ e
          | false => rw [hb] at e; exact hk _ _ e
        | _ => exact hk _ _ e
    | loop b =>
      simp only [estep] at e ⊢
      refine l _ _ _ _ e ?_
      intro r h e
      cases r with
      | cr c cm => exact hk _ _ e
      | ex x fr => cases x with
        | normal => exact l _ _ _ _ e hk
        | _ => exact hk _ _ e
    | scope b => exact l _ _ _ _ e hk
    | rangeFunc f params assign body =>
      simp only [estep] at e ⊢
      cases hf : fr.eval f with
      | none => rw [hf] at e; exact e.elim
      | some fv =>
        rw [hf] at e
        cases fv with
        | fn g first captured =>
          cases g with
          | func g =>
            simp only at e ⊢
            cases hx : E.ext g with
            | some x => rw [hx] at e; exact e.elim
            | none =>
              rw [hx] at e
              simp only at e ⊢
              have go : ∀ (defs : B) (fr : Fr) (h : H) (l0 : LoopA),
                  (h.newK (.loop l0) fun l h =>
                    X (.call g (first ++ [.fn (.yield l) [] []] ++ captured) .plain) h fun r h => match r with
                    | .cr (.ret _) _ => (match loopAt h l with
                      | some q => (match q.st with
                        | .busy => False
                        | _ => h.setK l (.loop { q with st := .exhausted }) fun h => (match q.pend with
                          | none => k (.ex .normal fr) h
                          | some c => X (.code fn rd c fr) h k))
                      | none => False)
                    | .cr (.pan v) _ => k (.ex (.pan v) fr) h
                    | _ => False) →
                  (h.newK (.loop l0) fun l h =>
                    Y (.call g (first ++ [.fn (.yield l) [] []] ++ captured) .plain) h fun r h => match r with
                    | .cr (.ret _) _ => (match loopAt h l with
                      | some q => (match q.st with
                        | .busy => False
                        | _ => h.setK l (.loop { q with st := .exhausted }) fun h => (match q.pend with
                          | none => k' (.ex .normal fr) h
                          | some c => Y (.code fn rd c fr) h k'))
                      | none => False)
                    | .cr (.pan v) _ => k' (.ex (.pan v) fr) h
                    | _ => False) := by
                intro defs fr h l0 e
                rw [H.newK_eq] at e ⊢
                refine l _ _ _ _ e ?_
                intro r h2 e
                cases r with
                | ex x fr => exact e
                | cr c cm =>
                  cases c with
                  | pan v => exact hk _ _ e
                  | ret v =>
                    simp only at e ⊢
                    cases hq : loopAt h2 h.next with
                    | none => rw [hq] at e; exact e.elim
                    | some q =>
                      rw [hq] at e
                      obtain ⟨st, pend, a1, a2, a3, a4, a5, a6, a7⟩ := q
                      cases st with
                      | busy => exact e
                      | _ =>
                        simp only [H.setK_eq] at e ⊢
                        cases pend with
                        | none => exact hk _ _ e
                        | some c => exact l _ _ _ _ e hk
              cases rd with
              | none =>
                simp only at e ⊢
                rw [H.newK_eq] at e ⊢
                exact go (.own 0) _ _ _ e
              | some b =>
                cases b with
                | own i =>
                  simp only at e ⊢
                  cases hq : loopAt h i with
                  | none => rw [hq] at e; exact e.elim
                  | some q => rw [hq] at e; exact go (.own 0) _ _ _ e
                | _ => exact e
          | _ => exact e
        | _ => exact e
  | again fn rd b fr =>
    simp only [estep] at e ⊢
    refine l _ _ _ _ e ?_
    intro r h e
    cases r with
    | cr c cm => exact hk _ _ e
    | ex x fr => cases x with
      | normal => exact l _ _ _ _ e hk
      | _ => exact hk _ _ e
  | scope fn rd all cur fr =>
    simp only [estep] at e ⊢
    refine l _ _ _ _ e ?_
    intro r h e
    cases r with
    | cr c cm => exact hk _ _ e
    | ex x fr => cases x with
      | goto lb =>
        simp only at e ⊢
        cases hf : findLabel all lb with
        | some rest => rw [hf] at e; exact l _ _ _ _ e hk
        | none => rw [hf] at e; exact hk _ _ e
      | _ => exact hk _ _ e
  | call f args cm =>
    simp only [estep] at e ⊢
    cases hh : E.hk f with
    | some hook =>
      rw [hh] at e
      cases cm with
      | plain => exact hm _ _ hh _ _ _ _ e (fun c h e => hk _ _ e)
      | _ => exact e
    | none =>
      rw [hh] at e
      simp only at e ⊢
      cases hf : E.P.funcs[f]? with
      | none => rw [hf] at e; exact e.elim
      | some fn =>
        rw [hf] at e
        simp only at e ⊢
        cases hc : fn.body with
        | none => rw [hc] at e; exact e.elim
        | some c =>
          rw [hc] at e
          simp only at e ⊢
          cases hn : notNG fn.name with
          | false => rw [hn] at e; exact e.elim
          | true =>
            rw [hn] at e
            simp only [cond_true] at e ⊢
            refine l _ _ _ _ e ?_
            intro r h e
            cases r with
            | cr c cm => exact e
            | ex x fr => cases x with
              | normal => exact l _ _ _ _ e hk
              | ret => exact l _ _ _ _ e hk
              | pan v => exact l _ _ _ _ e hk
              | _ => exact e
  | unw f fr ds u =>
    cases ds with
    | nil =>
      cases u with
      | ret =>
        simp only [estep] at e ⊢
        cases hf : E.P.funcs[f]? with
        | none => rw [hf] at e; exact e.elim
        | some fn =>
          rw [hf] at e
          simp only at e ⊢
          cases hr : resultsV E h fr fn.results.toList with
          | none => rw [hr] at e; exact e.elim
          | some vs => rw [hr] at e; exact hk _ _ e
      | pan v b => cases b with
        | false => exact hk _ _ e
        | true => exact e
      | plain => exact e
    | cons d ds =>
      cases d with
      | coll b =>
        cases b with
        | own i =>
          simp only [estep] at e ⊢
          split at e
          · rw [H.setK_eq] at e ⊢
            exact l _ _ _ _ e hk
          · exact e.elim
        | _ => exact e
      | call g captured args =>
        cases g with
        | func g =>
          simp only [estep] at e ⊢
          cases hx : E.ext g with
          | some x => rw [hx] at e; exact e.elim
          | none =>
            rw [hx] at e
            refine l _ _ _ _ e ?_
            intro r h e
            cases r with
            | ex x fr => exact e
            | cr c cm =>
              cases c with
              | ret v => cases cm with
                | plain => exact e
                | ret => exact l _ _ _ _ e hk
                | pan w b => cases b <;> exact l _ _ _ _ e hk
              | pan v => cases cm with
                | ret => exact l _ _ _ _ e hk
                | _ => exact e
        | _ => exact e

end
theorem Tr.le {P : Program} : Le (Tr P) (Tr P) := fun t h k k' e hk => e.mono hk
end Go.Proofs.Ab
