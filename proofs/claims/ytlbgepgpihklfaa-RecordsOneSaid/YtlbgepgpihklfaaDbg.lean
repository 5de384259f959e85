/- For the print only: says where a walk stands. -/
import Derived.Test.YtlbgepgpihklfaaAmJ
import Lean
namespace Go.Proofs.Ytlbgepgpihklfaa.Am
open Lean Elab Tactic Meta
partial def codeHead (e : Lean.Expr) : MetaM String := do
  let e ← whnfR e
  match e.getAppFn with
  | .const n _ =>
    let as := e.getAppArgs
    if n == ``Code.region then return s!"r{← ppExpr as[0]!}{if (← whnfR as[2]!).isConstOf ``Bool.true then "D" else ""}"
    let mut s := ""
    for a in as do
      let t ← inferType a
      if t.isConstOf ``Code then s := s ++ " " ++ (← codeHead a)
    let nm := n.componentsRev.head!
    if nm == `seq then return "(" ++ (← codeHead as[0]!) ++ "; " ++ (← codeHead as[1]!) ++ ")"
    return s!"{nm}" ++ (if s == "" then "" else "{" ++ s ++ "}")
  | _ => return "?"
def cut (n : Nat) (s : String) : String := if s.length > n then (s.take n).toString ++ ".." else s
/-- Where does each goal stand? -/
elab "hd!" : tactic => do
  for g in ← getGoals do
    g.withContext do
      let t := (← instantiateMVars (← g.getType)).consumeMData.headBeta
      let as := t.getAppArgs
      let mut s := "AT.lean:0:0: info\n"
      for d in ← getLCtx do
        if d.isImplementationDetail then continue
        if d.userName.hasMacroScopes then continue
        if ← isProp d.type then s := s ++ s!"  {d.userName} : {cut 120 (toString (← ppExpr d.type))}\n"
      match t.getAppFn with
      | .const n _ =>
        if n == ``TE then
          let r := as[1]!
          let ra := r.getAppArgs
          match r.getAppFn with
          | .const m _ =>
            if m == ``Code.wpIn then s := s ++ s!"AT code {← codeHead ra[3]!}\n"
            else if m == ``wpListIn then
              let rest ← whnfR ra[5]!
              if rest.isAppOf ``List.cons then s := s ++ s!"AT op {cut 300 (toString (← ppExpr rest.getAppArgs[1]!))}\n" else s := s ++ s!"AT list {cut 200 (toString (← ppExpr rest))}\n"
            else s := s ++ s!"AT {m}\n"
          | _ => s := s ++ s!"AT {cut 300 (toString (← ppExpr r))}\n"
          let st ← whnf as[2]!
          if st.getAppNumArgs ≥ 3 then
            s := s ++ s!"ENV {cut 350 (toString (← ppExpr st.getAppArgs[0]!))}\nHP {cut 400 (toString (← ppExpr st.getAppArgs[1]!))}\nNID {← ppExpr st.getAppArgs[2]!}"
          else s := s ++ s!"ST {cut 1500 (toString (← ppExpr st))}"
        else if n == ``TL then
          s := s ++ s!"AT TL listed {cut 800 (toString (← ppExpr as[7]!))}\n{cut 3000 (toString (← ppExpr as[8]!))}"
        else s := s ++ s!"⊢ {cut 3000 (toString (← ppExpr t))}"
      | _ => s := s ++ s!"⊢ {cut 3000 (toString (← ppExpr t))}"
      logInfo s
end Go.Proofs.Ytlbgepgpihklfaa.Am
