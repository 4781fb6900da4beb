/- Tables of circles: phasors of 64ths of turns and their angles, and what the law asks of them, by the kernel. -/
import Derived.Test.YtnjipckpkcandaaDoorCirP
namespace Go.Proofs.YtnjipckpkcandaaDoor
open Ieee
namespace Cir
def phT : List (Nat × Nat) := [(1065353216, 0), (1065272429, 1036565814), (1065030846, 1044891074), (1064630795, 1049927729), (1064076126, 1053028117), (1063372184, 1056004842), (1062525745, 1057896922), (1061544963, 1059219353), (1060439283, 1060439283), (1059219353, 1061544963), (1057896922, 1062525745), (1056004842, 1063372184), (1053028117, 1064076126), (1049927729, 1064630795), (1044891074, 1065030846), (1036565814, 1065272429), (0, 1065353216), (3184049462, 1065272429), (3192374722, 1065030846), (3197411377, 1064630795), (3200511765, 1064076126), (3203488490, 1063372184), (3205380570, 1062525745), (3206703001, 1061544963), (3207922931, 1060439283), (3209028611, 1059219353), (3210009393, 1057896922), (3210855832, 1056004842), (3211559774, 1053028117), (3212114443, 1049927729), (3212514494, 1044891074), (3212756077, 1036565814), (3212836864, 0), (3212756077, 3184049462), (3212514494, 3192374722), (3212114443, 3197411377), (3211559774, 3200511765), (3210855832, 3203488490), (3210009393, 3205380570), (3209028611, 3206703001), (3207922931, 3207922931), (3206703001, 3209028611), (3205380570, 3210009393), (3203488490, 3210855832), (3200511765, 3211559774), (3197411377, 3212114443), (3192374722, 3212514494), (3184049462, 3212756077), (0, 3212836864), (1036565814, 3212756077), (1044891074, 3212514494), (1049927729, 3212114443), (1053028117, 3211559774), (1056004842, 3210855832), (1057896922, 3210009393), (1059219353, 3209028611), (1060439283, 3207922931), (1061544963, 3206703001), (1062525745, 3205380570), (1063372184, 3203488490), (1064076126, 3200511765), (1064630795, 3197411377), (1065030846, 3192374722), (1065272429, 3184049462)]
def frT : List Nat := [0, 4580160821035794432, 4584664420663164928, 4586916220476850176, 4589168020290535424, 4590293920197378048, 4591419820104220672, 4592545720011063296, 4593671619917905920, 4594234569871327232, 4594797519824748544, 4595360469778169856, 4595923419731591168, 4596486369685012480, 4597049319638433792, 4597612269591855104, 4598175219545276416, 4598456694521987072, 4598738169498697728, 4599019644475408384, 4599301119452119040, 4599582594428829696, 4599864069405540352, 4600145544382251008, 4600427019358961664, 4600708494335672320, 4600989969312382976, 4601271444289093632, 4601552919265804288, 4601834394242514944, 4602115869219225600, 4602397344195936256, 4602678819172646912, 4602819556661002240, 4602960294149357568, 4603101031637712896, 4603241769126068224, 4603382506614423552, 4603523244102778880, 4603663981591134208, 4603804719079489536, 4603945456567844864, 4604086194056200192, 4604226931544555520, 4604367669032910848, 4604508406521266176, 4604649144009621504, 4604789881497976832, 4604930618986332160, 4605071356474687488, 4605212093963042816, 4605352831451398144, 4605493568939753472, 4605634306428108800, 4605775043916464128, 4605915781404819456, 4606056518893174784, 4606197256381530112, 4606337993869885440, 4606478731358240768, 4606619468846596096, 4606760206334951424, 4606900943823306752, 4607041681311662080]
def anT : List Nat := [0, 1015021568, 1023410176, 1027604479, 1031798784, 1033895936, 1035993088, 1038090240, 1040187392, 1041235968, 1042284544, 1043333120, 1044381696, 1045430272, 1046478848, 1047527424, 1048576000, 1049100288, 1049624576, 1050148864, 1050673152, 1051197440, 1051721728, 1052246016, 1052770304, 1053294592, 1053818880, 1054343168, 1054867456, 1055391744, 1055916032, 1056440320, 1056964608, 3203923968, 3203399680, 3202875392, 3202351104, 3201826816, 3201302528, 3200778240, 3200253952, 3199729664, 3199205376, 3198681088, 3198156800, 3197632512, 3197108224, 3196583936, 3196059648, 3195011072, 3193962496, 3192913920, 3191865344, 3190816768, 3189768192, 3188719616, 3187671040, 3185573888, 3183476736, 3181379584, 3179282432, 3175088127, 3170893824, 3162505216]
def phF (i : Nat) : Nat × Nat := phT.getD i (0, 0)
def frF (i : Nat) : Nat := frT.getD i 0
def anF (i : Nat) : Nat := anT.getD i 0
def eqN (a : Option Nat) (b : Nat) : Bool := match a with | some x => Nat.beq x b | none => false
def eqP (a : Option (Nat × Nat)) (b : Nat × Nat) : Bool := match a with | some x => Nat.beq x.1 b.1 && Nat.beq x.2 b.2 | none => false
theorem eqN_iff {a : Option Nat} {b : Nat} (h : eqN a b = true) : a = some b := by
  cases a with
  | none => cases h
  | some x => rw [Nat.eq_of_beq_eq_true h]
theorem eqP_iff {a : Option (Nat × Nat)} {b : Nat × Nat} (h : eqP a b = true) : a = some b := by
  cases a with
  | none => cases h
  | some x =>
    have h : (Nat.beq x.1 b.1 && Nat.beq x.2 b.2) = true := h
    rw [Bool.and_eq_true] at h
    obtain ⟨x1, x2⟩ := x
    obtain ⟨b1, b2⟩ := b
    have h1 := Nat.eq_of_beq_eq_true h.1
    have h2 := Nat.eq_of_beq_eq_true h.2
    rw [show x1 = b1 from h1, show x2 = b2 from h2]
/-- all numbers below 2 ^ k from lo on -/
def allB (p : Nat → Bool) : Nat → Nat → Bool
  | 0, lo => p lo
  | k + 1, lo => allB p k lo && allB p k (lo + 2 ^ k)
theorem allB_at {p : Nat → Bool} : ∀ (k lo x : Nat), allB p k lo = true → lo ≤ x → x < lo + 2 ^ k → p x = true
  | 0, lo, x, h, h1, h2 => by
    have : x = lo := by simp at h2; omega
    rw [this]; exact h
  | k + 1, lo, x, h, h1, h2 => by
    rw [allB, Bool.and_eq_true] at h
    rw [Nat.pow_succ] at h2
    by_cases e : x < lo + 2 ^ k
    · exact allB_at k lo x h.1 h1 e
    · exact allB_at k (lo + 2 ^ k) x h.2 (by omega) (by omega)
variable (O : FO)
/-- the phasor behind the rest of a turn -/
def phasR (f0 : Nat) : Option (Nat × Nat) :=
  (quarters O 5 f0 0).bind fun fq =>
  (O.sub quart fq.1).bind fun g => (sineO O g).bind fun c => (sineO O fq.1).bind fun s =>
  if fq.2 = 1 then (O.sub 0 s).bind fun a => narP O a c
  else if fq.2 = 2 then (O.sub 0 c).bind fun a => (O.sub 0 s).bind fun b => narP O a b
  else if fq.2 = 3 then (O.sub 0 c).bind fun b => narP O s b
  else narP O c s
theorem phasR_is (t : Nat) : phasO O t = (restO O t).bind (phasR O) := rfl
def fP (i : Nat) (g : Nat × Nat → Bool) : Bool := Fst.force (phF i).1 fun x => Fst.force (phF i).2 fun y => g (x, y)
theorem fP_eq (i : Nat) (g : Nat × Nat → Bool) : fP i g = g (phF i) := by unfold fP; rw [Fst.force_eq, Fst.force_eq]
def phC (i : Nat) : Bool := Fst.force i fun i => Fst.force (frF i) fun f => eqP (phasR O f) (phF i)
def nearC (i j : Nat) : Bool := Fst.force i fun i => Fst.force j fun j => fP i fun p => fP j fun q => fP ((i + j) % 64) fun r => match (mulO O p q).bind (fun m => nearO O m r) with | some b => b | none => false
def powC (i : Nat) : Bool := Fst.force i fun i => fP i fun p => match (powO O p).bind fun x => (O.wid x).bind fun y => gapO O y one with | some g => !isGt g e4 | none => false
def anC (i : Nat) : Bool := Fst.force i fun i => fP i fun p => eqN (angO O p.2 p.1) (anF i)
theorem ph_ok : allB (phC fst) 6 0 = true := by decide +kernel
theorem an_ok : allB (anC fst) 6 0 = true := by decide +kernel
theorem near_ok : allB (fun i => allB (nearC fst i) 6 0) 6 0 = true := by decide +kernel
theorem pow_ok : allB (powC fst) 6 0 = true := by decide +kernel
end Cir
end Go.Proofs.YtnjipckpkcandaaDoor
