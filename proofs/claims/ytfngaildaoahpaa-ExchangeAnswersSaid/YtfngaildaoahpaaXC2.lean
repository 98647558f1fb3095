import Derived.Test.YtfngaildaoahpaaXS1
import Derived.Test.YtfngaildaoahpaaXE13
import Derived.Test.YtfngaildaoahpaaXE21
set_option linter.unusedSimpArgs false
set_option linter.unusedVariables false
namespace Go.Proofs.Ytfngaildaoahpaa
open Go Go.Am
end Go.Proofs.Ytfngaildaoahpaa

/- What a neighbor brings as an argument; the law ExchangeStarts. -/
namespace Go.Proofs.Ytfngaildaoahpaa
open Go Go.Am
end Go.Proofs.Ytfngaildaoahpaa

/- Headers in the order of their keys: what was shown of advertisements, shown of headers. -/
namespace Go.Proofs.Ytfngaildaoahpaa
open Go Go.Am
end Go.Proofs.Ytfngaildaoahpaa

/- The exchange of databases: rows in order, searches. -/
namespace Go.Proofs.Ytfngaildaoahpaa
open Go Go.Am
end Go.Proofs.Ytfngaildaoahpaa
