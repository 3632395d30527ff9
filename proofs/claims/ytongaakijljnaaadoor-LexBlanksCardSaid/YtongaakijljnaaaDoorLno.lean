/- A slice of names that is an argument. -/
import Derived.Test.YtongaakijljnaaaDoorOp
import Derived.Test.YtongaakijljnaaaDoorNb
namespace Go.Proofs.YtongaakijljnaaaDoor
open Go.RowKit Go.ChangeShapes Go.WideShapes
theorem dec_name {P : Program} {e : TypeId} (he : P.underlying e = some .string) : Dec P e nc (fun x => x.length ≤ maxLen) := by
  intro H enc w base spare held n cs y h
  obtain ⟨x, h1, h3⟩ := dec_string he H enc w base spare held n cs y h
  refine ⟨x.data.toList, (by show x.data.toList.length ≤ maxLen; rw [Nm.len_size]; exact h1), ?_⟩
  rw [h3]; simp only [nc, ba_of]
end Go.Proofs.YtongaakijljnaaaDoor
